/- The join of logs, plainly: the list in order that has the events of both, each once; and what a sorted list that was compacted is. The reference's shards. CheckLog of package event, and the reference's. Plain: a text cut at the first byte c. No program stands in it. -/
import Derived.Test.YtbgbfjfboaajbaaGreatDoorEm03
import Derived.Lib.SlicesCompact
import Derived.Test.YtbgbfjfboaajbaaGreatDoorEm02
namespace Go.Proofs.YtbgbfjfboaajbaaGreatDoor
open Go.Sort Go.Lib
def Asc (M : List Ev) : Prop := M.Pairwise (fun a b => ordE a b < 0)
def NoClash (U : List Ev) : Prop := ∀ x ∈ U, ∀ y ∈ U, ordE x y = 0 → x = y
def Adj (P : Ev → Ev → Prop) (C : List Ev) : Prop := ∀ j x y, C[j]? = some x → C[j + 1]? = some y → P x y
theorem Adj.nil (P : Ev → Ev → Prop) : Adj P [] := fun j x y h => by simp at h
theorem Adj.snoc {P : Ev → Ev → Prop} {C : List Ev} {y : Ev} (h : Adj P C) (hl : ∀ x, C.getLast? = some x → P x y) : Adj P (C ++ [y]) := by
  intro j a b ha hb
  by_cases h1 : j + 1 < C.length
  · rw [List.getElem?_append_left (by omega)] at ha hb
    exact h j a b ha hb
  · by_cases h2 : j + 1 = C.length
    · rw [List.getElem?_append_left (by omega)] at ha
      rw [List.getElem?_append_right (by omega), h2, Nat.sub_self] at hb
      have : y = b := by simpa using hb
      subst this
      refine hl a ?_
      rw [List.getLast?_eq_getElem?, ← h2, Nat.add_sub_cancel]; exact ha
    · rw [List.getElem?_append_right (by omega)] at hb
      rw [List.getElem?_eq_none (by simp; omega)] at hb; cases hb
theorem Adj.tail {P : Ev → Ev → Prop} {x : Ev} {C : List Ev} (h : Adj P (x :: C)) : Adj P C := fun j a b ha hb => h (j + 1) a b (by simpa using ha) (by simpa using hb)
theorem asc_head {x : Ev} : ∀ {C : List Ev}, Adj (fun a b => ordE a b < 0) (x :: C) → ∀ y ∈ C, ordE x y < 0
  | [], _, _, h => by cases h
  | z :: C, h, y, hy => by
    have h1 : ordE x z < 0 := h 0 x z rfl rfl
    rcases List.mem_cons.1 hy with rfl | hy
    · exact h1
    · exact ordE_lt_trans h1 (asc_head h.tail y hy)
theorem asc_of_adj : ∀ {C : List Ev}, Adj (fun a b => ordE a b < 0) C → Asc C
  | [], _ => List.Pairwise.nil
  | _ :: _, h => List.Pairwise.cons (asc_head h) (asc_of_adj h.tail)
theorem asc_unique : ∀ {M M' : List Ev}, Asc M → Asc M' → (∀ x, x ∈ M ↔ x ∈ M') → M = M'
  | [], [], _, _, _ => rfl
  | [], y :: M', _, _, h => by have := (h y).2 (by simp); cases this
  | x :: M, [], _, _, h => by have := (h x).1 (by simp); cases this
  | x :: M, y :: M', h1, h2, h => by
    obtain ⟨a1, a2⟩ := List.pairwise_cons.1 h1
    obtain ⟨b1, b2⟩ := List.pairwise_cons.1 h2
    have hxy : x = y := by
      rcases List.mem_cons.1 ((h x).1 (by simp)) with e | e
      · exact e
      · rcases List.mem_cons.1 ((h y).2 (by simp)) with e' | e'
        · exact e'.symm
        · have := a1 y e'; have := b1 x e; rw [ordE_anti x y] at this; omega
    subst hxy
    congr 1
    refine asc_unique a2 b2 fun z => ?_
    constructor
    · intro hz
      rcases List.mem_cons.1 ((h z).1 (List.mem_cons_of_mem _ hz)) with e | e
      · subst e; have := a1 z hz; rw [ordE_self] at this; omega
      · exact e
    · intro hz
      rcases List.mem_cons.1 ((h z).2 (List.mem_cons_of_mem _ hz)) with e | e
      · subst e; have := b1 z hz; rw [ordE_self] at this; omega
      · exact e
theorem asc_noClash {M : List Ev} (h : Asc M) : NoClash M := by
  intro x hx y hy h0
  obtain ⟨i, hi, rfl⟩ := List.getElem_of_mem hx
  obtain ⟨j, hj, rfl⟩ := List.getElem_of_mem hy
  rcases Nat.lt_trichotomy i j with h1 | h1 | h1
  · have := List.pairwise_iff_getElem.1 h i j hi hj h1; omega
  · subst h1; rfl
  · have := List.pairwise_iff_getElem.1 h j i hj hi h1; rw [ordE_anti, h0] at this; omega

/-- What a list in order becomes, compacted. -/
theorem cpt_inv (d : Array Ev) : ∀ m, m ≤ d.size → (∀ x, x ∈ compactUpTo d m ↔ ∃ j, j < m ∧ d[j]! = x) ∧ (0 < m → (compactUpTo d m).getLast? = some d[m - 1]!) ∧ Adj (fun a b => a ≠ b ∧ ∃ i j, i < j ∧ j < m ∧ d[i]! = a ∧ d[j]! = b) (compactUpTo d m)
  | 0, _ => ⟨fun x => by simp [compactUpTo], fun h => by omega, by simp only [compactUpTo, List.range_zero, List.filter_nil, List.map_nil]; exact Adj.nil _⟩
  | m + 1, hm => by
    obtain ⟨h1, h2, h3⟩ := cpt_inv d m (by omega)
    rw [compactUpTo_succ]
    have h3' : Adj (fun a b => a ≠ b ∧ ∃ i j, i < j ∧ j < m + 1 ∧ d[i]! = a ∧ d[j]! = b) (compactUpTo d m) := fun j x y hx hy => by
      obtain ⟨k1, i, k, k2, k3, k4, k5⟩ := h3 j x y hx hy
      exact ⟨k1, i, k, k2, by omega, k4, k5⟩
    by_cases hk : keeps d m = true
    · rw [if_pos hk]
      refine ⟨fun x => ?_, fun _ => by simp, h3'.snoc fun x hx => ?_⟩
      · simp only [List.mem_append, h1, List.mem_singleton]
        constructor
        · rintro (⟨j, hj, rfl⟩ | rfl)
          · exact ⟨j, by omega, rfl⟩
          · exact ⟨m, by omega, rfl⟩
        · rintro ⟨j, hj, rfl⟩
          by_cases e : j = m
          · subst e; exact .inr rfl
          · exact .inl ⟨j, by omega, rfl⟩
      · by_cases hm0 : m = 0
        · subst hm0; simp [compactUpTo] at hx
        · rw [h2 (by omega)] at hx
          obtain rfl := Option.some.inj hx
          refine ⟨fun e => ?_, m - 1, m, by omega, by omega, rfl, rfl⟩
          simp only [keeps, decide_eq_true_eq] at hk
          rcases hk with hk | hk
          · exact hm0 hk
          · exact hk e.symm
    · have hk' : keeps d m = false := by simpa using hk
      have hm0 : m ≠ 0 := fun e => by subst e; simp [keeps] at hk'
      have hd : d[m]! = d[m - 1]! := by
        simp only [keeps, decide_eq_false_iff_not] at hk'
        exact Classical.byContradiction fun h => hk' (.inr h)
      rw [if_neg hk, List.append_nil]
      refine ⟨fun x => ?_, fun _ => by rw [h2 (by omega), Nat.add_sub_cancel, hd], h3'⟩
      rw [h1]
      constructor
      · rintro ⟨j, hj, rfl⟩; exact ⟨j, by omega, rfl⟩
      · rintro ⟨j, hj, rfl⟩
        by_cases e : j = m
        · subst e; exact ⟨j - 1, by omega, hd.symm⟩
        · exact ⟨j, by omega, rfl⟩
theorem perm_mem {U : List Ev} {d' : Array Ev} (hp : PermIn 0 U.toArray.size U.toArray d') (x : Ev) : (∃ j, j < d'.size ∧ d'[j]! = x) ↔ x ∈ U := by
  obtain ⟨hs, _, hq⟩ := hp
  have e1 : (d'.extract 0 U.toArray.size).toList = d'.toList := by rw [← hs]; simp
  have e2 : (U.toArray.extract 0 U.toArray.size).toList = U := by simp
  rw [e1, e2] at hq
  rw [← hq.mem_iff]
  constructor
  · rintro ⟨j, hj, rfl⟩; rw [getElem!_pos d' j hj]; exact Array.getElem_mem_toList hj
  · intro h
    obtain ⟨j, hj, rfl⟩ := List.getElem_of_mem h
    have hj' : j < d'.size := by simpa using hj
    exact ⟨j, hj', by rw [getElem!_pos d' j hj']; simp⟩
/-- What was sorted and compacted: the events of U, in order, but for clashes. -/
theorem cpt_sorted {U : List Ev} {d' : Array Ev} (hp : PermIn 0 U.toArray.size U.toArray d') (hs : SortedIn (ltOf ordE) 0 U.toArray.size d') :
    (∀ x, x ∈ compactUpTo d' d'.size ↔ x ∈ U) ∧ Adj (fun a b => a ≠ b ∧ ordE a b ≤ 0) (compactUpTo d' d'.size) := by
  obtain ⟨h1, _, h3⟩ := cpt_inv d' d'.size (Nat.le_refl _)
  refine ⟨fun x => (h1 x).trans (perm_mem hp x), fun j x y hx hy => ?_⟩
  obtain ⟨k1, i, k, k2, k3, rfl, rfl⟩ := h3 j x y hx hy
  refine ⟨k1, ?_⟩
  have := hs i k (by omega) k2 (by rw [← hp.1]; exact k3)
  simp only [ltOf, decide_eq_false_iff_not, Int.not_lt] at this
  rw [ordE_anti] at this; omega
theorem clash_of {U C : List Ev} (hm : ∀ x, x ∈ C ↔ x ∈ U) (ha : Adj (fun a b => a ≠ b ∧ ordE a b ≤ 0) C) {j : Nat} {x y : Ev} (hx : C[j]? = some x) (hy : C[j + 1]? = some y) (h0 : ordE x y = 0) : ¬ NoClash U := by
  intro hn
  exact (ha j x y hx hy).1 (hn x ((hm x).1 (List.mem_of_getElem? hx)) y ((hm y).1 (List.mem_of_getElem? hy)) h0)
theorem asc_of {C : List Ev} (ha : Adj (fun a b => a ≠ b ∧ ordE a b ≤ 0) C) (hn : Adj (fun a b => ordE a b ≠ 0) C) : Asc C :=
  asc_of_adj fun j x y hx hy => by have := (ha j x y hx hy).2; have := hn j x y hx hy; show ordE x y < 0; omega
end Go.Proofs.YtbgbfjfboaajbaaGreatDoor
namespace Go.Proofs.YtbgbfjfboaajbaaGreatDoor
open Go.RowKit
theorem string_info : (Tryz.prog.info? 9).map (fun i => (i.zero, i.size, i.bytes)) = some (some (.string { data := #[] }), 1, 16) := by kernel_rfl
theorem shards_last (l : List Ev) : ∀ k, k < l.length → (shardsTo l (k + 1)).getLast? = (l[k]?).map Ev.shard
  | 0, h => by simp [shardsTo, newAt, List.getElem?_eq_getElem h]
  | k + 1, h => by
    have ih := shards_last l k (by omega)
    rw [shardsTo]
    have h1 := List.getElem?_eq_getElem h
    have h2 := List.getElem?_eq_getElem (show k < l.length by omega)
    simp only [newAt, h1, h2, Option.map_some] at *
    by_cases hq : l[k + 1].shard = l[k].shard
    · simp [hq, ih]
    · simp [hq]
theorem shards_pos (l : List Ev) (k : Nat) (h : k < l.length) : 0 < (shardsTo l (k + 1)).length := by
  have := shards_last l k h
  rw [List.getElem?_eq_getElem h] at this
  cases hq : shardsTo l (k + 1) with
  | nil => rw [hq] at this; simp at this
  | cons _ _ => simp
/-- what a slice that the call owns looks like, and reads as -/
theorem own_form {w : World} {base e size n : Nat} {v : Value} {xs : List Value} (h : w.ownsRow base e size v n xs) (hn : 0 < n) : ∃ g cap, v = .slice (some ⟨g, 0, none⟩) n cap ∧ g < w.heap.size ∧ ∀ i x, xs[i]? = some x → w.cell? ⟨g, i, none⟩ = some x := by
  obtain ⟨a, cap, rfl, _, _, _, hc⟩ := Sl.ofOwn h
  obtain ⟨h1, h2⟩ := h
  rcases h2 with ⟨h0, rfl⟩ | ⟨g, cap', cur, hv, hb, hg, _⟩
  · omega
  · cases hv
    refine ⟨g, cap, rfl, (Array.getElem?_eq_some_iff.1 hg).1, fun i x hx => ?_⟩
    obtain ⟨b, o, hbo, hcell⟩ := hc i x hx
    cases hbo
    simpa using hcell
def ShardsPost (l : List Ev) (w : World) (e : Ending) (w' : World) : Prop :=
  ∃ a cap, e = .returned (.slice a (shardsOf l).length cap) ∧ Sl w' (.slice a (shardsOf l).length cap) (shardsOf l).length ((shardsOf l).map Value.string) ∧ Below w.heap.size w w'
set_option maxHeartbeats 4000000 in
theorem ref7_shards (l : List Ev) (hl2 : l.length ≤ 20000) (a : Option Addr) (c : Nat) (w : World) (hs : Sl w (.slice a l.length c) l.length (l.flatMap evL)) :
    Calls Tryz.prog 21 #[.slice a l.length c] w (ShardsPost l w) := by
  have HI := Lib.hid string_info
  go_enter Tryz.func21, Tryz.ntmps21
  go_wp2
  go_loopw [3, 9] (fun v i wr => ∃ k n : Nat, k ≤ l.length ∧ n ≤ k ∧ i = .int .i64 k ∧ wr.ownsRow w.heap.size 9 1 v n ((shardsTo l k).map Value.string) ∧ Hid ((shardsTo l k).length = n) ∧ Below w.heap.size w wr) (fun _ i _ => l.length - (intOf i).toNat)
  case atStart => exact ⟨0, 0, by omega, by omega, rfl, World.ownsRow_nil _ _ _ _, rfl, Below.refl _ _⟩
  case round =>
    obtain ⟨k, n, hk, hnk, rfl, hown, HN, hb⟩ := hrel
    by_cases hlt : k < l.length
    · have hgk := List.getElem?_eq_getElem hlt
      generalize l[k] = s at hgk
      obtain ⟨b, o, rfl, e0, e1, e2, e3, e4, e5, e6, e7⟩ := ev_cells (hs.ext hb) hgk
      have hsz := hb.size
      have HK1 : Hid (shardsTo l (k + 1) = shardsTo l k ++ if newAt l k then [s.shard] else []) := by
        have : shardsTo l (k + 1) = shardsTo l k ++ if newAt l k then [s.shard] else [] := by rw [shardsTo, hgk]; rfl
        exact this
      have hb0 : ∀ q, u3.ownBlock = some q → w.heap.size ≤ q := fun q hq => (hown.lt q hq).1
      have HB0 := Lib.hid hb0
      clear hb0
      go_upto_region 5 with (fail)
      clear e0 e1 e2 e3 e4 e5 e6 e7
      refine wp_box1 fun X hszX hbX hX => ?_
      have hbx := ext_trans hb hbX
      have hownX := ownsRow_ext hown hbX
      have hszx := hbx.size
      clear hszX hown hb hbX hsz
      have g0 := hX.2 0
      by_cases h0 : k = 0
      · subst h0
        obtain rfl : n = 0 := by omega
        obtain ⟨a3, c3, rfl, _⟩ := Sl.ofOwn hownX
        have HN2 : Hid (shardsTo l 1 = shardsTo l 0 ++ [s.shard]) := by have := HK1.out; simp [newAt] at this; exact this
        go_wp2_with fail
        go_quiet (fail)
        have g1 := (Box.ext hX (below_drewN (Below.refl _ _) nq)).2 0
        go_wp2_with (at_builtin; refine wpList_append_sl rfl _ _ 48 rfl w.heap.size 9 Tryz.underlying48 HI.out rfl (by decide) rfl (ownsRow_ext (ownsRow_ext hownX (below_drewN (Below.refl _ _) nq)) (ext_alloc _ _)) rfl (Sl.new _ #[.string s.shard] _ 1 1 (by omega) (by decide)) rfl (by intro u hu; simp at hu; subst hu; rfl) (by unfold maxLen; omega) (by omega) (by simp; omega) ?_; intro v7 w7 hown7 hg7 _)
        have hown8 : w7.ownsRow w.heap.size 9 1 v7 (0 + 1) ((shardsTo l (0 + 1)).map Value.string) := by rw [HN2.out, List.map_append]; exact hown7
        have hb8 : Below w.heap.size w w7 := (ext_trans (ext_trans hbx (below_drewN (Below.refl _ _) nq)) (ext_alloc _ _)).grown hg7 (by simp; omega) (fun q hq => HB0.out q hq)
        have HN3 : Hid ((shardsTo l (0 + 1)).length = 0 + 1) := by
          have h1 := HN.out
          exact (by rw [HN2.out, List.length_append, h1]; rfl : (shardsTo l (0 + 1)).length = 0 + 1)
        clear hown7 hg7 g1
        go_wp2
        go_roundw
        case rel => exact ⟨0 + 1, 0 + 1, by omega, by omega, by go_num, hown8, HN3, hb8⟩
        case measure => simp [intOf]; omega
      · obtain ⟨j, rfl⟩ : ∃ j, k = j + 1 := ⟨k - 1, by omega⟩
        have hgj := List.getElem?_eq_getElem (show j < l.length by omega)
        have hpos := shards_pos l j (by omega)
        have hlast := shards_last l j (by omega)
        have hnew : newAt l (j + 1) = decide (s.shard ≠ l[j].shard) := by rw [newAt, hgk, hgj]; simp
        rw [hgj] at hlast
        generalize l[j] = s' at hlast hgj hnew
        rw [HN.out] at hpos
        obtain ⟨g, c3, rfl, hg, hcl⟩ := own_form hownX hpos
        obtain ⟨m, rfl⟩ : ∃ m, n = m + 1 := ⟨n - 1, by omega⟩
        have hcm : X.cell? ⟨g, m, none⟩ = some (.string s'.shard) := by
          refine hcl m _ ?_
          rw [List.getLast?_eq_getElem?, HN.out] at hlast
          rw [List.getElem?_map, show m = m + 1 - 1 by omega, hlast]; rfl
        have hm0 : (0 : Int) ≤ (m : Int) := Int.natCast_nonneg _
        have hne0 : ((m : Int) + 1 == 0) = false := by simp; omega
        have hwm : IntKind.i64.wrap (m : Int) = (m : Int) := IntWalk.i64_in _ (by omega)
        have hm1 : (m : Int) < (m : Int) + 1 := by omega
        clear hgk hgj hlast hcl hpos
        by_cases hq : s.shard = s'.shard
        · have hq1 : (s'.shard.toList == s.shard.toList) = true := by rw [hq]; simp
          have HN2 : Hid (shardsTo l (j + 1 + 1) = shardsTo l (j + 1)) := by have := HK1.out; rw [hnew] at this; simp [hq] at this; exact this
          clear hq hnew
          go_wp2_with fail
          go_quiet (fail)
          clear hwm
          have hownY : (X.drewN nq).ownsRow w.heap.size 9 1 (.slice (some ⟨g, 0, none⟩) (m + 1) c3) (m + 1) ((shardsTo l (j + 1 + 1)).map Value.string) := by rw [HN2.out]; exact ownsRow_ext hownX (below_drewN (Below.refl _ _) nq)
          have HN3 : Hid ((shardsTo l (j + 1 + 1)).length = m + 1) := by rw [HN2.out]; exact HN
          have hb8 := ext_trans hbx (below_drewN (Below.refl _ _) nq)
          go_wp2
          go_roundw
          case rel => exact ⟨j + 1 + 1, m + 1, by omega, by omega, by go_num, hownY, HN3, hb8⟩
          case measure => simp [intOf]; omega
        · have hq1 : (s'.shard.toList == s.shard.toList) = false := by
            simp only [beq_eq_false_iff_ne, ne_eq, ByteArray.toList_eq]; exact fun h => hq (bytes_ext h).symm
          have HN2 : Hid (shardsTo l (j + 1 + 1) = shardsTo l (j + 1) ++ [s.shard]) := by have := HK1.out; rw [hnew] at this; simp [hq] at this; exact this
          clear hq hnew
          go_wp2_with fail
          go_quiet (fail)
          clear hwm
          have g1 := (Box.ext hX (below_drewN (Below.refl _ _) nq)).2 0
          go_wp2_with (at_builtin; refine wpList_append_sl rfl _ _ 48 rfl w.heap.size 9 Tryz.underlying48 HI.out rfl (by decide) rfl (ownsRow_ext (ownsRow_ext hownX (below_drewN (Below.refl _ _) nq)) (ext_alloc _ _)) rfl (Sl.new _ #[.string s.shard] _ 1 1 (by omega) (by decide)) rfl (by intro u hu; simp at hu; subst hu; rfl) (by unfold maxLen; omega) (by omega) (by simp; omega) ?_; intro v7 w7 hown7 hg7 _)
          have hown8 : w7.ownsRow w.heap.size 9 1 v7 (m + 1 + 1) ((shardsTo l (j + 1 + 1)).map Value.string) := by rw [HN2.out, List.map_append]; exact hown7
          have hb8 : Below w.heap.size w w7 := (ext_trans (ext_trans hbx (below_drewN (Below.refl _ _) nq)) (ext_alloc _ _)).grown hg7 (by simp; omega) (fun q hq => HB0.out q hq)
          have HN3 : Hid ((shardsTo l (j + 1 + 1)).length = m + 1 + 1) := by
            have h1 := HN.out
            exact (by rw [HN2.out, List.length_append, h1]; rfl : (shardsTo l (j + 1 + 1)).length = m + 1 + 1)
          clear hown7 hg7 g1
          go_wp2
          go_roundw
          case rel => exact ⟨j + 1 + 1, m + 1 + 1, by omega, by omega, by go_num, hown8, HN3, hb8⟩
          case measure => simp [intOf]; omega
    · have hkl : k = l.length := by omega
      have HK := Lib.hid hkl
      clear hkl
      obtain ⟨a3, c3, rfl, _⟩ := Sl.ofOwn hown
      go_wp2
      go_ret
      refine ⟨a3, c3, ?_, ?_, hb⟩
      · unfold shardsOf; rw [← HK.out, HN.out]; rfl
      · unfold shardsOf; rw [← HK.out, HN.out]; exact Sl.ofOwn hown
end Go.Proofs.YtbgbfjfboaajbaaGreatDoor
namespace Go.Proofs.YtbgbfjfboaajbaaGreatDoor
open Go.RowKit
/-- the first fault of events, behind another one -/
def scanFrom : Option Ev → List Ev → Int
  | _, [] => 0
  | p, e :: r => if checkE e ≠ 0 then checkE e else if (match p with | none => false | some q => decide (0 ≤ ordE q e)) = true then 8 else scanFrom (some e) r
def checkL (l : List Ev) : Int := if 20000 < l.length then 2 else if scanFrom none l ≠ 0 then scanFrom none l else if 50 < (shardsOf l).length then 2 else 0
theorem scan_step (p : Option Ev) {l : List Ev} {k : Nat} {s : Ev} (h : l[k]? = some s) : scanFrom p (l.drop k) = if checkE s ≠ 0 then checkE s else if (match p with | none => false | some q => decide (0 ≤ ordE q s)) = true then 8 else scanFrom (some s) (l.drop (k + 1)) := by
  obtain ⟨hk, rfl⟩ := List.getElem?_eq_some_iff.1 h
  rw [List.drop_eq_getElem_cons hk]; rfl
def prevE (l : List Ev) : Nat → Option Ev
  | 0 => none
  | k + 1 => l[k]?
/-- eight cells of an event -/
abbrev C8 (w' : World) (b o : Nat) (e : Ev) : Prop :=
  w'.cell? ⟨b, o, none⟩ = some (.string e.shard) ∧ w'.cell? ⟨b, o + 1, none⟩ = some (.int .i64 e.number) ∧ w'.cell? ⟨b, o + 2, none⟩ = some (.int .i64 e.kind) ∧ w'.cell? ⟨b, o + 3, none⟩ = some (.int .i64 e.time) ∧
    w'.cell? ⟨b, o + 4, none⟩ = some (.string e.key) ∧ w'.cell? ⟨b, o + 5, none⟩ = some (.string e.name) ∧ w'.cell? ⟨b, o + 6, none⟩ = some (.int .i64 e.arm) ∧ w'.cell? ⟨b, o + 7, none⟩ = some (.int .i64 e.n)
theorem C8.ext {w w' : World} {b o : Nat} {e : Ev} (hb : Below w.heap.size w w') (h : C8 w b o e) : C8 w' b o e :=
  ⟨cell_later hb h.1, cell_later hb h.2.1, cell_later hb h.2.2.1, cell_later hb h.2.2.2.1, cell_later hb h.2.2.2.2.1, cell_later hb h.2.2.2.2.2.1, cell_later hb h.2.2.2.2.2.2.1, cell_later hb h.2.2.2.2.2.2.2⟩
abbrev SE (W : World) (b1 : Nat) (A1 : Array Value) (b o : Nat) (e : Ev) (w' : World) : Prop :=
  Below W.heap.size W w' ∧ (∀ j, w'.cell? ⟨b1, j, none⟩ = A1[j]?) ∧ C8 w' b o e
theorem SE.start {W : World} {b1 : Nat} {A1 : Array Value} {b o : Nat} {e : Ev} (h1 : Box W b1 A1) (h2 : C8 W b o e) : SE W b1 A1 b o e W.drew := ⟨(Below.refl _ _).drew, h1.2, h2⟩
theorem SE.ext {W w1 w2 : World} {b1 : Nat} {A1 : Array Value} {b o : Nat} {e : Ev} (hb : Below w1.heap.size w1 w2) (h : SE W b1 A1 b o e w1) (h1 : Box W b1 A1) : SE W b1 A1 b o e w2 :=
  ⟨ext_trans h.1 hb, fun j => (hb.cell (p := ⟨b1, j, none⟩) (Nat.lt_of_lt_of_le h1.1 h.1.size)).trans (h.2.1 j), C8.ext hb h.2.2⟩

set_option maxHeartbeats 4000000 in
theorem event_CheckLog (l : List Ev) (hok : ∀ e ∈ l, e.ok) (a : Option Addr) (c : Nat) (w : World) (hs : Sl w (.slice a l.length c) l.length (l.flatMap evL)) :
    Calls Tryz.prog 6 #[.slice a l.length c] w fun e w' => e = .returned (.int .i64 (checkL l)) ∧ Below w.heap.size w w' := by
  have HOK := Lib.hid hok
  clear hok
  by_cases hl : 20000 < l.length
  · have hc : checkL l = 2 := by unfold checkL; rw [if_pos hl]
    rw [hc]
    clear hc
    go_enter Tryz.func6, Tryz.ntmps6
    go_wp2
    go_ret
    exact ⟨rfl, Below.refl _ _⟩
  have HC : Hid (checkL l = if scanFrom none l ≠ 0 then scanFrom none l else if 50 < (shardsOf l).length then 2 else 0) := by
    have : checkL l = if scanFrom none l ≠ 0 then scanFrom none l else if 50 < (shardsOf l).length then 2 else 0 := by unfold checkL; rw [if_neg hl]
    exact this
  go_enter Tryz.func6, Tryz.ntmps6
  go_wp2
  go_loopw [11] (fun i wr => ∃ k : Nat, k ≤ l.length ∧ i = .int .i64 k ∧ Hid (scanFrom none l = scanFrom (prevE l k) (l.drop k)) ∧ Below w.heap.size w wr) (fun i _ => l.length - (intOf i).toNat)
  case atStart => exact ⟨0, by omega, rfl, rfl, Below.refl _ _⟩
  case round =>
    obtain ⟨k, hk, rfl, HK, hb⟩ := hrel
    by_cases hlt : k < l.length
    · have hgk := List.getElem?_eq_getElem hlt
      have hsok : (l[k]).ok := HOK.out _ (List.getElem_mem _)
      generalize l[k] = s at hgk hsok
      obtain ⟨b, o, rfl, e0, e1, e2, e3, e4, e5, e6, e7⟩ := ev_cells (hs.ext hb) hgk
      have HST := Lib.hid (scan_step (prevE l k) hgk)
      have HP : Hid (prevE l (k + 1) = some s) := hgk
      clear hgk
      go_upto_region 6 with (fail)
      clear e0 e1 e2 e3 e4 e5 e6 e7
      refine wp_box1 fun X hszX hbX hX => ?_
      obtain ⟨_, hX2⟩ := id hX
      clear hszX
      go_wp2_with fail
      refine (event_Check s hsok _).mono ?_
      rintro e w2 ⟨rfl, hb2⟩
      have hbx := ext_trans (ext_trans hb hbX) hb2
      have hX3 := hX.ext hb2
      clear hX hX2 hbX hb2
      by_cases hc : checkE s = 0
      · have hne : (checkE s != 0) = false := by simp [hc]
        have HS2 : Hid (scanFrom none l = if (match prevE l k with | none => false | some q => decide (0 ≤ ordE q s)) = true then 8 else scanFrom (some s) (l.drop (k + 1))) := by
          have := HK.out; rw [HST.out, if_neg (by simp [hc])] at this; exact this
        clear hc
        by_cases h0 : k = 0
        · subst h0
          have HS3 : Hid (scanFrom none l = scanFrom (prevE l (0 + 1)) (l.drop (0 + 1))) := by have := HS2.out; simp only [prevE] at this; rw [HP.out]; exact (by simpa using this : scanFrom none l = scanFrom (some s) (l.drop (0 + 1)))
          go_wp2_with fail
          go_quiet (fail)
          go_wp2
          exact ⟨⟨0 + 1, by omega, rfl, HS3, below_drewN hbx _⟩, by simp [intOf]; omega⟩
        · obtain ⟨j, rfl⟩ : ∃ j, k = j + 1 := ⟨k - 1, by omega⟩
          have hgj := List.getElem?_eq_getElem (show j < l.length by omega)
          have HS3 : Hid (scanFrom none l = if decide (0 ≤ ordE l[j] s) = true then 8 else scanFrom (prevE l (j + 1 + 1)) (l.drop (j + 1 + 1))) := by
            have := HS2.out; rw [show prevE l (j + 1) = some l[j] from hgj] at this; rw [HP.out]; exact this
          generalize l[j] = s' at hgj HS3
          obtain ⟨b', o', hb', f0, f1, f2, f3, f4, f5, f6, f7⟩ := ev_cells (hs.ext hbx) hgj
          cases hb'
          clear hgj h0 HS2 HST
          have hj0 : (0 : Int) ≤ (j : Int) := Int.natCast_nonneg _
          have hj1 : (j : Int) < (l.length : Int) := by omega
          have hpos : decide ((0 : Int) < (j : Int) + 1) = true := decide_eq_true (by omega)
          have hwj : IntKind.i64.wrap (j : Int) = (j : Int) := IntWalk.i64_in _ (by omega)
          go_wp2_with fail
          go_region_held3 (SE w2 wr.heap.size (evC s) b (o + j * 8) s') (first | exact SE.start hX3 ⟨f0, f1, f2, f3, f4, f5, f6, f7⟩ | exact SE.ext (by with_reducible assumption) (by with_reducible assumption) hX3 | assumption) (first | (go_at_call 17; refine (event_order s' s _).mono ?_; rintro e w3 ⟨rfl, hb3⟩))
          have hb4 := ext_trans hbx.drew hb3
          clear hwj hpos f0 f1 f2 f3 f4 f5 f6 f7 hb3 hX3
          by_cases ho : 0 ≤ ordE s' s
          · have HF : Hid (checkL l = 8) := by
              have h1 := HS3.out
              rw [if_pos (decide_eq_true ho)] at h1
              have h2 := HC.out
              rw [h1, if_pos (by decide)] at h2; exact h2
            go_wp2
            go_ret
            exact ⟨ret_int HF.out.symm, hb4⟩
          · have HS4 : Hid (scanFrom none l = scanFrom (prevE l (j + 1 + 1)) (l.drop (j + 1 + 1))) := by
              have h1 := HS3.out
              rw [if_neg (by simp; omega)] at h1; exact h1
            go_wp2
            go_roundw
            case rel => exact ⟨j + 1 + 1, by omega, by go_num, HS4, hb4⟩
            case measure => simp [intOf]; omega
      · have hne : (checkE s != 0) = true := by simp [hc]
        have HF : Hid (checkL l = checkE s) := by
          have h1 := HK.out
          rw [HST.out, if_pos hc] at h1
          have h2 := HC.out
          rw [h1, if_pos hc] at h2; exact h2
        clear hc
        go_wp2
        go_ret
        exact ⟨ret_int HF.out.symm, hbx⟩
    · have hz : scanFrom none l = 0 := by
        have := HK.out
        rw [List.drop_eq_nil_of_le (by omega)] at this
        rw [this]; rfl
      have hsl := shardsTo_le l l.length
      by_cases h50 : 50 < (shardsOf l).length
      · have HF : Hid (checkL l = 2) := by have h2 := HC.out; rw [hz, if_neg (by simp), if_pos h50] at h2; exact h2
        clear hz
        go_wp2_with fail
        refine (event_shards l a c _ (hs.ext hb)).mono ?_
        rintro e w2 ⟨rfl, hb2⟩
        go_wp2
        go_ret
        exact ⟨ret_int HF.out.symm, ext_trans hb hb2⟩
      · have HF : Hid (checkL l = 0) := by have h2 := HC.out; rw [hz, if_neg (by simp), if_neg h50] at h2; exact h2
        clear hz
        go_wp2_with fail
        refine (event_shards l a c _ (hs.ext hb)).mono ?_
        rintro e w2 ⟨rfl, hb2⟩
        go_wp2
        go_ret
        exact ⟨ret_int HF.out.symm, ext_trans hb hb2⟩
end Go.Proofs.YtbgbfjfboaajbaaGreatDoor
namespace Go.Proofs.YtbgbfjfboaajbaaGreatDoor
namespace Tx
open _root_.Go.Proofs.YtbgbfjfboaajbaaGreatDoor.Nm
def cut1 (c : UInt8) : List UInt8 → List UInt8 × Option (List UInt8)
  | [] => ([], none)
  | b :: r => if b = c then ([], some r) else (b :: (cut1 c r).1, (cut1 c r).2)
theorem cut1_none {c : UInt8} : ∀ {l : List UInt8}, c ∉ l → cut1 c l = (l, none)
  | [], _ => rfl
  | b :: r, h => by
    have hb : b ≠ c := fun e => h (by simp [e])
    rw [cut1, if_neg hb, cut1_none (l := r) (fun e => h (List.mem_cons_of_mem _ e))]
theorem cut1_app {c : UInt8} {r : List UInt8} : ∀ {x : List UInt8}, c ∉ x → cut1 c (x ++ c :: r) = (x, some r)
  | [], _ => by show cut1 c (c :: r) = _; rw [cut1, if_pos rfl]
  | b :: x, h => by
    have hb : b ≠ c := fun e => h (by simp [e])
    show cut1 c (b :: (x ++ c :: r)) = _
    rw [cut1, if_neg hb, cut1_app (x := x) (fun e => h (List.mem_cons_of_mem _ e))]
end Tx
end Go.Proofs.YtbgbfjfboaajbaaGreatDoor
