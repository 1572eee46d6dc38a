/- slices.Sort at ints: a row of the call's own; cells of an own row, written. Own rows of structs: an element written, the tail cleared, cut short; the subjects that are kept. '==' and slices.Contains at subjects. Printed by gen_lawclo.py. Plain: what counts for the subjects of an experiment. No program stands in it. The stable sort's rotation, over any program that holds the bodies. -/
import Derived.Test.YtacchooggifnhaaDoorCl07
import Derived.Sort.OwnSortedInts
import Derived.Test.YtacchooggifnhaaDoorCl08
import Derived.Deep.MidRow
import Derived.Test.YtacchooggifnhaaDoorCl04
import Derived.Test.YtacchooggifnhaaDoorCl05
import Derived.Test.YtacchooggifnhaaDoorCl06
namespace Go.Proofs.YtacchooggifnhaaDoor
open Go.RowKit Go.Sort Go.Shelf
namespace Ex
/-- a cell of an own row is written -/
theorem own_set {w : World} {base e size n g cap : Nat} {xs : List Value} (h : w.ownsRow base e size (.slice (some ⟨g, 0, none⟩) n cap) n xs) {i : Nat} (_hi : i < xs.length) (x : Value) : (w.setCell ⟨g, i, none⟩ x).ownsRow base e size (.slice (some ⟨g, 0, none⟩) n cap) n (xs.set i x) := by
  obtain ⟨h1, ⟨h2, _⟩ | ⟨g', cap', cur, hv, hb, hg, hn, hm, hs, ht⟩⟩ := h
  · cases h2
  · cases hv
    refine ⟨by rw [List.length_set]; exact h1, .inr ⟨g, cap, cur.setIfInBounds i x, rfl, hb, ?_, hn, hm, by simpa using hs, ?_⟩⟩
    · simp only [World.setCell, Array.getElem?_modify, hg]; simp
    · rw [Array.toList_setIfInBounds, ← ht, List.take_set]
theorem own_cell {w : World} {base e size n g cap : Nat} {xs : List Value} (h : w.ownsRow base e size (.slice (some ⟨g, 0, none⟩) n cap) n xs) {i : Nat} {x : Value} (hi : xs[i]? = some x) : w.cell? ⟨g, i, none⟩ = some x ∧ w.frozen? ⟨g, i, none⟩ = false := by
  obtain ⟨h1, ⟨h2, _⟩ | ⟨g', cap', cur, hv, hb, hg, hn, hm, hs, ht⟩⟩ := h
  · cases h2
  · cases hv
    have hlt := (List.getElem?_eq_some_iff.1 hi).1
    rw [← ht, List.getElem?_take] at hi
    split at hi
    · refine ⟨?_, by simp [World.frozen?, hg]⟩
      simp only [World.cell?, hg]
      simpa using hi
    · cases hi
theorem own_form {w : World} {base e size n : Nat} {v : Value} {xs : List Value} (h : w.ownsRow base e size v n xs) (hn : 0 < n) : ∃ g cap, v = .slice (some ⟨g, 0, none⟩) n cap ∧ base ≤ g := by
  obtain ⟨h1, ⟨rfl, h2⟩ | ⟨g, cap, cur, rfl, hb, _⟩⟩ := h
  · omega
  · exact ⟨g, cap, rfl, hb⟩
end Ex
end Go.Proofs.YtacchooggifnhaaDoor
namespace Go.Proofs.YtacchooggifnhaaDoor
open Go.RowKit
namespace Ex
theorem sb_cells {w : World} {a : Option Addr} {n c k : Nat} {l : List Sbj} {e : Sbj} (s : Sl w (.slice a n c) n (l.flatMap sbL)) (h : l[k]? = some e) :
    ∃ b o, a = some ⟨b, o, none⟩ ∧ w.cell? ⟨b, o + k * 8, none⟩ = some (.string e.key) ∧ w.cell? ⟨b, o + k * 8 + 1, none⟩ = some (.int .i64 e.time) ∧ w.cell? ⟨b, o + k * 8 + 2, none⟩ = some (.int .i64 e.arm) ∧ w.cell? ⟨b, o + k * 8 + 3, none⟩ = some (.int .i64 e.count) ∧
      w.cell? ⟨b, o + k * 8 + 4, none⟩ = some (.int .i64 e.sum) ∧ w.cell? ⟨b, o + k * 8 + 5, none⟩ = some (.int .i64 e.early) ∧ w.cell? ⟨b, o + k * 8 + 6, none⟩ = some (.int .i64 e.earlySum) ∧ w.cell? ⟨b, o + k * 8 + 7, none⟩ = some (.bool e.closed) := by
  obtain ⟨b, o, ha, hc⟩ := s.elem sbL_len (by omega) h
  exact ⟨b, o, ha, hc 0 _ rfl, hc 1 _ rfl, hc 2 _ rfl, hc 3 _ rfl, hc 4 _ rfl, hc 5 _ rfl, hc 6 _ rfl, hc 7 _ rfl⟩
theorem box_sb {w : World} {b : Nat} {e : Sbj} (h : Box w b (sbC e)) : w.cell? ⟨b, 0, none⟩ = some (.string e.key) ∧ w.cell? ⟨b, 1, none⟩ = some (.int .i64 e.time) ∧ w.cell? ⟨b, 2, none⟩ = some (.int .i64 e.arm) ∧ w.cell? ⟨b, 3, none⟩ = some (.int .i64 e.count) ∧
      w.cell? ⟨b, 4, none⟩ = some (.int .i64 e.sum) ∧ w.cell? ⟨b, 5, none⟩ = some (.int .i64 e.early) ∧ w.cell? ⟨b, 6, none⟩ = some (.int .i64 e.earlySum) ∧ w.cell? ⟨b, 7, none⟩ = some (.bool e.closed) :=
  ⟨h.2 0, h.2 1, h.2 2, h.2 3, h.2 4, h.2 5, h.2 6, h.2 7⟩
theorem take_set_same {α : Type} : ∀ (l : List α) (i : Nat) (x : α), (l.set i x).take i = l.take i
  | [], _, _ => by simp
  | y :: l, 0, x => by simp
  | y :: l, i + 1, x => by simp [take_set_same l i x]
/-- a subject whose arm counts -/
def keepB (arms : Int) (s : Sbj) : Bool := decide (s.arm < arms)
/-- the row while what does not count goes -/
structure DelInv (arms : Int) (U U' : List Sbj) (i j : Nat) : Prop where
  len : U'.length = U.length
  lt : i < j
  low : U'.take i = (U.take j).filter (keepB arms)
  high : U'.drop j = U.drop j
theorem DelInv.start {arms : Int} {U : List Sbj} {k : Nat} {s : Sbj} (h : ∀ j s, j < k → U[j]? = some s → keepB arms s = true) (hk : U[k]? = some s) (hs : keepB arms s = false) : DelInv arms U U k (k + 1) := by
  refine ⟨rfl, by omega, ?_, rfl⟩
  obtain ⟨hl, rfl⟩ := List.getElem?_eq_some_iff.1 hk
  rw [List.take_succ_eq_append_getElem hl, List.filter_append]
  have e1 : (U.take k).filter (keepB arms) = U.take k := by
    rw [List.filter_eq_self]
    intro x hx
    obtain ⟨i, hi, rfl⟩ := List.getElem_of_mem hx
    rw [List.length_take] at hi
    rw [List.getElem_take]
    exact h i _ (by omega) (List.getElem?_eq_getElem (by omega))
  rw [e1, List.filter_cons_of_neg (by rw [hs]; simp)]
  simp
theorem DelInv.get {arms : Int} {U U' : List Sbj} {i j : Nat} (h : DelInv arms U U' i j) : U'[j]? = U[j]? := by
  have e1 := congrArg (fun l : List Sbj => l[0]?) h.high
  simpa using e1
theorem DelInv.skip {arms : Int} {U U' : List Sbj} {i j : Nat} {s : Sbj} (h : DelInv arms U U' i j) (hj : U[j]? = some s) (hs : keepB arms s = false) : DelInv arms U U' i (j + 1) := by
  obtain ⟨hl, rfl⟩ := List.getElem?_eq_some_iff.1 hj
  refine ⟨h.len, by have := h.lt; omega, ?_, ?_⟩
  · rw [List.take_succ_eq_append_getElem hl, List.filter_append, List.filter_cons_of_neg (by rw [hs]; simp), h.low]
    simp
  · have := congrArg (List.drop 1) h.high
    simpa [List.drop_drop, Nat.add_comm] using this
theorem DelInv.keep {arms : Int} {U U' : List Sbj} {i j : Nat} {s : Sbj} (h : DelInv arms U U' i j) (hj : U[j]? = some s) (hs : keepB arms s = true) : DelInv arms U (U'.set i s) (i + 1) (j + 1) := by
  obtain ⟨hl, rfl⟩ := List.getElem?_eq_some_iff.1 hj
  have hlt := h.lt
  refine ⟨by rw [List.length_set]; exact h.len, by omega, ?_, ?_⟩
  · have hiu : i < (U'.set i U[j]).length := by rw [List.length_set, h.len]; omega
    rw [List.take_succ_eq_append_getElem hl, List.filter_append, List.filter_cons_of_pos hs, ← h.low, List.take_succ_eq_append_getElem hiu, take_set_same]
    simp
  · rw [List.drop_set_of_lt (by omega)]
    have := congrArg (List.drop 1) h.high
    simpa [List.drop_drop, Nat.add_comm] using this
theorem DelInv.fin {arms : Int} {U U' : List Sbj} {i j : Nat} (h : DelInv arms U U' i j) (hj : U.length ≤ j) (hi : i < U.length) : U'.take i = U.filter (keepB arms) ∧ (U.filter (keepB arms)).length = i := by
  have e1 := h.low
  rw [List.take_of_length_le hj] at e1
  refine ⟨e1, ?_⟩
  rw [← e1, List.length_take, h.len]; omega
end Ex
end Go.Proofs.YtacchooggifnhaaDoor
namespace Go.Proofs.YtacchooggifnhaaDoor
open Go.RowKit
namespace Ex
theorem sb_ext {a b : Sbj} (h0 : a.key = b.key) (h1 : a.time = b.time) (h2 : a.arm = b.arm) (h3 : a.count = b.count) (h4 : a.sum = b.sum) (h5 : a.early = b.early) (h6 : a.earlySum = b.earlySum) (h7 : a.closed = b.closed) : a = b := by
  cases a; cases b; simp_all
instance : DecidableEq Sbj := fun a b => decidable_of_iff (a.key = b.key ∧ a.time = b.time ∧ a.arm = b.arm ∧ a.count = b.count ∧ a.sum = b.sum ∧ a.early = b.early ∧ a.earlySum = b.earlySum ∧ a.closed = b.closed)
  ⟨fun ⟨h0, h1, h2, h3, h4, h5, h6, h7⟩ => sb_ext h0 h1 h2 h3 h4 h5 h6 h7, fun h => by subst h; simp⟩
set_option maxHeartbeats 2000000 in
set_option maxRecDepth 100000 in
theorem equal_sb (x y : Sbj) (w : World) : (Op.equalIn 10000 36 (.agg (sbC x)) (.agg (sbC y))).run Tryd.prog w = .ok (decide (x = y)) w := by
  have e1 : (Op.equalIn 10000 36 (.agg (sbC x)) (.agg (sbC y))).run Tryd.prog w = .ok (decide (x = y)) w := by
    rw [run_equalIn_struct w 9999 36 _ _ (by kernel_rfl) (by kernel_rfl)]
    go_simp
    by_cases hxy : x = y
    · subst hxy; simp
    · rw [decide_eq_false hxy]
      split
      · split
        · split
          · split
            · split
              · split
                · split
                  · split
                    · exact absurd (sb_ext (toList_inj ‹_›) ‹_› ‹_› ‹_› ‹_› ‹_› ‹_› ‹_›) hxy
                    · rfl
                  · rfl
                · rfl
              · rfl
            · rfl
          · rfl
        · rfl
      · rfl
  exact e1
theorem eql_sb (x y : Sbj) (w : World) : (binOp .eql 36 (.agg (sbC x)) (.agg (sbC y))).run Tryd.prog w = .ok (.bool (decide (x = y))) w := by
  simp only [binOp]
  simp [Op.equal, Op.maxDepth, equal_sb x y w]
theorem guard_sb (op : BinOp) (a b : Operand) (x y : Sbj) (w : World) : (eqGuard op 36 a b (.agg (sbC x)) (.agg (sbC y))).run Tryd.prog w = .ok () w :=
  run_eqGuard_agg w op _ a b _ _ (by kernel_rfl)
set_option maxRecDepth 100000 in
set_option maxHeartbeats 16000000 in
theorem index_sb (l : List Sbj) (s : Sbj) (a : Option Addr) (c : Nat) (w : World) (hs : Sl w (.slice a l.length c) l.length (l.flatMap sbL)) :
    Calls Tryd.prog 21 #[.slice a l.length c, .agg (sbC s)] w (IdxPost (s ∈ l) w) := by
  have hl := hs.len_le
  go_enter Tryd.func21, Tryd.ntmps21
  go_wp2
  refine wp_box1 fun X hszX hbX hX => ?_
  clear hszX
  go_loopw [8] (fun i wr => ∃ k : Nat, k ≤ l.length ∧ i = .int .i64 k ∧ Hid (∀ j x, j < k → l[j]? = some x → x ≠ s) ∧ Below X.heap.size X wr) (fun i _ => l.length - (intOf i).toNat)
  case atStart => exact ⟨0, by omega, rfl, (fun j x hj => by omega), Below.refl _ _⟩
  case round =>
    obtain ⟨k, hk, rfl, HK, hb⟩ := hrel
    have hbw := ext_trans hbX hb
    by_cases hlt : k < l.length
    · have hgk := List.getElem?_eq_getElem hlt
      generalize l[k] = x at hgk
      obtain ⟨b, o, rfl, e0, e1, e2, e3, e4, e5, e6, e7⟩ := sb_cells (hs.ext hbw) hgk
      have HG := Lib.hid hgk
      have hXr := hX.ext hb
      obtain ⟨g0, g1, g2, g3, g4, g5, g6, g7⟩ := box_sb hXr
      have hgd := fun op a b w => guard_sb op a b s x w
      have heq := eql_sb s x
      have hi0 : (0 : Int) ≤ (k : Int) := Int.natCast_nonneg _
      have hi1 : (k : Int) < (l.length : Int) := by omega
      clear hgk hXr
      by_cases hq : s = x
      · rw [decide_eq_true hq] at heq
        have HP : ∀ W, Below X.heap.size X W → IdxPost (s ∈ l) w (.returned (.int .i64 (k : Int))) W := fun W hW => ⟨k, rfl, ⟨fun _ => by rw [hq]; exact List.mem_of_getElem? HG.out, fun _ => by omega⟩, ext_trans hbX hW⟩
        have HPA : Aside _ := HP
        clear hq HP
        go_wp2_with fail
        go_quiet (fail)
        go_wp2
        go_ret
        exact HPA.out _ (below_drewN hb _)
      · rw [decide_eq_false hq] at heq
        have HK2 : Hid (∀ j y, j < k + 1 → l[j]? = some y → y ≠ s) := by
          intro j y hj hy
          by_cases e : j = k
          · subst e; rw [HG.out] at hy; cases hy; exact fun h => hq h.symm
          · exact HK.out j y (by omega) hy
        clear hq
        go_wp2_with fail
        go_quiet (fail)
        go_wp2
        exact ⟨⟨k + 1, by omega, by go_num, HK2, below_drewN hb _⟩, by simp [intOf]; omega⟩
    · have HP : Hid (IdxPost (s ∈ l) w (.returned (.int .i64 (-1))) wr) := by
        refine ⟨-1, rfl, ⟨fun h => by omega, fun h => ?_⟩, hbw⟩
        obtain ⟨j, hj, he⟩ := List.getElem_of_mem h
        exact absurd he (HK.out j _ (by omega) (List.getElem?_eq_getElem hj))
      go_wp2
      go_ret
      exact HP.out
set_option maxRecDepth 100000 in
set_option maxHeartbeats 16000000 in
theorem contains_sb (l : List Sbj) (s : Sbj) (a : Option Addr) (c : Nat) (w : World) (hs : Sl w (.slice a l.length c) l.length (l.flatMap sbL)) :
    Calls Tryd.prog 8 #[.slice a l.length c, .agg (sbC s)] w (HasPost (s ∈ l) w) := by
  go_enter Tryd.func8, Tryd.ntmps8
  go_upto_region 1 with (fail)
  refine wp_box1 fun X hszX hbX hX => ?_
  clear hszX
  obtain ⟨g0, g1, g2, g3, g4, g5, g6, g7⟩ := box_sb hX
  clear hX
  go_wp2_with fail
  refine (index_sb l s a c _ (hs.ext hbX)).mono ?_
  rintro e w1 ⟨r, rfl, hr, hb⟩
  have HD : Hid (HasPost (s ∈ l) w (.returned (.bool (decide (0 ≤ r)))) w1) := ⟨_, rfl, by rw [decide_eq_true_iff]; exact hr, ext_trans hbX hb⟩
  clear hr g0 g1 g2 g3 g4 g5 g6 g7
  go_wp2
  go_ret
  exact HD.out
end Ex
end Go.Proofs.YtacchooggifnhaaDoor
namespace Go.Proofs.YtacchooggifnhaaDoor
namespace Ex
/-- an outcome with the name -/
def isOutc (name : ByteArray) (e : Ev) : Bool := decide (e.kind = 2) && decide (e.name = name)
/-- the outcomes of a key -/
def outsK (name : ByteArray) (l : List Ev) (key : ByteArray) : List Ev := l.filter (fun e => isOutc name e && decide (e.key = key))
/-- one outcome more: how it counts for a subject -/
def cntS (fr to bf : Int) (s : Sbj) (e : Ev) : Sbj :=
  if fr ≤ e.time - s.time ∧ e.time - s.time < to then { s with count := s.count + 1, sum := s.sum + e.n }
  else if e.time - s.time < 0 ∧ -bf ≤ e.time - s.time then { s with early := s.early + 1, earlySum := s.earlySum + e.n } else s
def cntX (fr to bf : Int) (name : ByteArray) (l : List Ev) (s : Sbj) : Sbj := (outsK name l s.key).foldl (cntS fr to bf) s
theorem cntS_in {fr to bf : Int} {s : Sbj} {e : Ev} (h : fr ≤ e.time - s.time ∧ e.time - s.time < to) : cntS fr to bf s e = { s with count := s.count + 1, sum := s.sum + e.n } := if_pos h
theorem cntS_early {fr to bf : Int} {s : Sbj} {e : Ev} (h : ¬ (fr ≤ e.time - s.time ∧ e.time - s.time < to)) (k : e.time - s.time < 0 ∧ -bf ≤ e.time - s.time) : cntS fr to bf s e = { s with early := s.early + 1, earlySum := s.earlySum + e.n } := (if_neg h).trans (if_pos k)
theorem cntS_out {fr to bf : Int} {s : Sbj} {e : Ev} (h : ¬ (fr ≤ e.time - s.time ∧ e.time - s.time < to)) (k : ¬ (e.time - s.time < 0 ∧ -bf ≤ e.time - s.time)) : cntS fr to bf s e = s := (if_neg h).trans (if_neg k)
theorem cntS_same (fr to bf : Int) (s : Sbj) (e : Ev) : (cntS fr to bf s e).key = s.key ∧ (cntS fr to bf s e).time = s.time ∧ (cntS fr to bf s e).arm = s.arm ∧ (cntS fr to bf s e).closed = s.closed := by
  unfold cntS
  split
  · exact ⟨rfl, rfl, rfl, rfl⟩
  · split
    · exact ⟨rfl, rfl, rfl, rfl⟩
    · exact ⟨rfl, rfl, rfl, rfl⟩
theorem fold_same (fr to bf : Int) : ∀ (L : List Ev) (s : Sbj), (L.foldl (cntS fr to bf) s).key = s.key ∧ (L.foldl (cntS fr to bf) s).time = s.time ∧ (L.foldl (cntS fr to bf) s).arm = s.arm ∧ (L.foldl (cntS fr to bf) s).closed = s.closed
  | [], s => ⟨rfl, rfl, rfl, rfl⟩
  | e :: L, s => by
    obtain ⟨h1, h2, h3, h4⟩ := fold_same fr to bf L (cntS fr to bf s e)
    obtain ⟨g1, g2, g3, g4⟩ := cntS_same fr to bf s e
    exact ⟨h1.trans g1, h2.trans g2, h3.trans g3, h4.trans g4⟩
theorem cntX_same (fr to bf : Int) (name : ByteArray) (l : List Ev) (s : Sbj) : (cntX fr to bf name l s).key = s.key ∧ (cntX fr to bf name l s).time = s.time ∧ (cntX fr to bf name l s).arm = s.arm ∧ (cntX fr to bf name l s).closed = s.closed := fold_same fr to bf _ s
theorem fold_take {α β : Type} {f : α → β → α} {l : List β} {k : Nat} {e : β} (h : l[k]? = some e) (a : α) : (l.take (k + 1)).foldl f a = f ((l.take k).foldl f a) e := by
  obtain ⟨hk, rfl⟩ := List.getElem?_eq_some_iff.1 h
  rw [List.take_succ_eq_append_getElem hk, List.foldl_append]; rfl
/-- how great the counts are after so many outcomes -/
structure CntB (j : Nat) (s : Sbj) : Prop where
  c : 0 ≤ s.count ∧ s.count ≤ j
  u : -(1000000000000 * (j : Int)) ≤ s.sum ∧ s.sum ≤ 1000000000000 * (j : Int)
  e : 0 ≤ s.early ∧ s.early ≤ j
  v : -(1000000000000 * (j : Int)) ≤ s.earlySum ∧ s.earlySum ≤ 1000000000000 * (j : Int)
theorem CntB.step {j : Nat} {s : Sbj} (h : CntB j s) {e : Ev} (he : -1000000000000 ≤ e.n ∧ e.n ≤ 1000000000000) (fr to bf : Int) : CntB (j + 1) (cntS fr to bf s e) := by
  obtain ⟨h1, h2, h3, h4⟩ := h
  unfold cntS
  split
  · exact ⟨by simp only; omega, by simp only; omega, by simp only; omega, by simp only; omega⟩
  · split
    · exact ⟨by simp only; omega, by simp only; omega, by simp only; omega, by simp only; omega⟩
    · exact ⟨by omega, by omega, by omega, by omega⟩
theorem CntB.mono {j k : Nat} {s : Sbj} (h : CntB j s) (hk : j ≤ k) : CntB k s := by
  obtain ⟨h1, h2, h3, h4⟩ := h
  exact ⟨by omega, by omega, by omega, by omega⟩
theorem CntB.fold {fr to bf : Int} {s : Sbj} (h : CntB 0 s) : ∀ (L : List Ev), (∀ e ∈ L, -1000000000000 ≤ e.n ∧ e.n ≤ 1000000000000) → ∀ k, k ≤ L.length → CntB k ((L.take k).foldl (cntS fr to bf) s) := by
  intro L hL k
  induction k with
  | zero => intro _; rw [List.take_zero]; exact h
  | succ k ih =>
    intro hk
    have hg := List.getElem?_eq_getElem (show k < L.length by omega)
    rw [fold_take hg]
    exact (ih (by omega)).step (hL _ (List.getElem_mem _)) _ _ _
theorem subj_cnt (p : ByteArray × Ev) : CntB 0 (subjOf p) := ⟨by simp [subjOf], by simp [subjOf], by simp [subjOf], by simp [subjOf]⟩
theorem expR_cnt {F : Fst} {M : Mix} {o : List Sbj} {ks : List ByteArray} (h : ExpR F M o ks) : ∀ s ∈ o, CntB 0 s ∧ s.count = 0 ∧ s.sum = 0 ∧ s.early = 0 ∧ s.earlySum = 0 ∧ s.closed = false := by
  intro s hs
  obtain ⟨p, _, _, rfl⟩ := (h.2.1 s).1 hs
  exact ⟨subj_cnt p, rfl, rfl, rfl, rfl, rfl⟩
/-! ### outcomes, event by event -/
theorem outsK_take {name : ByteArray} {l : List Ev} {k : Nat} {e : Ev} (h : l[k]? = some e) (key : ByteArray) : outsK name (l.take (k + 1)) key = outsK name (l.take k) key ++ if isOutc name e = true ∧ e.key = key then [e] else [] := by
  obtain ⟨hk, rfl⟩ := List.getElem?_eq_some_iff.1 h
  unfold outsK
  rw [List.take_succ_eq_append_getElem hk, List.filter_append]
  congr 1
  by_cases h1 : isOutc name l[k] = true ∧ l[k].key = key
  · rw [if_pos h1]; simp [h1.1, h1.2]
  · rw [if_neg h1]
    simp only [List.filter_cons, List.filter_nil]
    rw [if_neg (by simpa using h1)]
theorem outsK_len (name : ByteArray) (l : List Ev) (key : ByteArray) : (outsK name l key).length ≤ l.length := List.length_filter_le _ _
theorem outsK_mem {name : ByteArray} {l : List Ev} {key : ByteArray} {e : Ev} (h : e ∈ outsK name l key) : e ∈ l ∧ e.kind = 2 ∧ e.name = name ∧ e.key = key := by
  obtain ⟨h1, h2⟩ := List.mem_filter.1 h
  simp only [isOutc, Bool.and_eq_true, decide_eq_true_eq] at h2
  exact ⟨h1, h2.1.1, h2.1.2, h2.2⟩
/-! ### the places of the subjects -/
/-! ### returned -/
/-- the subjects with what counts for them -/
def subS (len bf : Int) (name : ByteArray) (kn : Int) (l : List Ev) (s : Sbj) : Sbj := { cntX 0 len bf name l s with closed := decide (s.time + len ≤ kn) }
end Ex
end Go.Proofs.YtacchooggifnhaaDoor
namespace Go.Proofs.YtacchooggifnhaaDoor
namespace St
open Go.Shelf Go.RowKit Go.Lib Go.Sort
variable {P : Program} {α : Type} [Inhabited α]
theorem Rot.size {m i j : Nat} {d d' : Array α} (h : Rot m i j d d') : d'.size = d.size := h.1.1
set_option maxHeartbeats 4000000 in
set_option maxRecDepth 1000000 in
theorem rotate (k : Nat) (L : Lay P k) (F94 : P.funcs[92]? = some Tryd.f92) (e94 : ∀ args w, (callFunc 92 args).run P w = .ok (.enter 92 args) w) (FG : P.funcs[87]? = some Tryd.f87) (enc : α → List Value) (g : Nat) (cb : Array Value) (blk off cap a m b : Nat) (d0 d : Array α) (w0 w : World)
    (R : RowK enc k w0 blk off d0) (hs : d0.size = d.size) (S : SWK enc k w0 blk off d w) (ham : a < m) (hmb : m < b) (hb : b ≤ d.size) (hsz : d.size < 4611686018427387904) :
    Calls P 87 #[.slice (some ⟨blk, off, none⟩) d.size cap, .int .i64 a, .int .i64 m, .int .i64 b, .func (.func g) #[] cb] w fun e w' => e = .returned (.tuple #[]) ∧ ∃ d', Rot m (m - a) (b - m) d d' ∧ SWK enc k w0 blk off d' w' := by
  have mixed := L.mixed; have t0 := L.t0; have a0 := L.a0; have z0 := L.z0; have v0 := L.v0; have t3 := L.t3; have a3 := L.a3; have z3 := L.z3; have v3 := L.v3; have t4 := L.t4; have a4 := L.a4; have z4 := L.z4; have v4 := L.v4; have tS := L.tS; have aS := L.aS; have zS := L.zS; have vS := L.vS; have tF := L.tF; have aF := L.aF; have zF := L.zF; have vF := L.vF
  have S0 : Aside (SWK enc k w0 blk off d w) := S
  clear S
  go_enter FG, Tryd.ntmps87
  go_wp2
  go_loopg [10, 11] (b - a) (fun kx s10 s11 wr => ∃ (i j : Nat) (dk : Array α), s10 = .int .i64 i ∧ s11 = .int .i64 j ∧ 0 < i ∧ i ≤ m ∧ 0 < j ∧ m + j ≤ d.size ∧ i + j ≤ kx ∧ dk.size = d.size ∧ Aside (SWK enc k w0 blk off dk wr) ∧ Hid (∀ d', Rot m i j dk d' → Rot m (m - a) (b - m) d d'))
  case atStart => exact ⟨m - a, b - m, d, by congr 1; omega, by congr 1; omega, by omega, by omega, by omega, by omega, by omega, rfl, S0, fun _ h => h⟩
  case round =>
    clear S0
    obtain ⟨i, j, dk, rfl, rfl, hi0, him, hj0, hjm, hkx, hds, S1, HR⟩ := hrel
    by_cases hij : i = j
    · subst hij
      have hcall := swapRange (P := P) k L F94 enc g cb blk off cap (m - i) m i d0 dk w0 wr R (by omega) S1.out (by omega) (by omega) (by omega)
      have ec : ((m - i : Nat) : Int) = (m : Int) - (i : Int) := by omega
      rw [ec, hds] at hcall
      clear S1
      go_wp2_with (go_at_fn 92; refine hcall.mono ?_; rintro e w1 ⟨rfl, S3⟩)
      go_end0
      exact ⟨rfl, _, HR.out _ (rot_eq dk him (by omega)), S3⟩
    · have hne : ¬ ((i : Int) = (j : Int)) := by omega
      by_cases hlt : j < i
      · have hltz : (j : Int) < (i : Int) := by omega
        have hcall := swapRange (P := P) k L F94 enc g cb blk off cap (m - i) m j d0 dk w0 wr R (by omega) S1.out (by omega) (by omega) (by omega)
        have ec : ((m - i : Nat) : Int) = (m : Int) - (i : Int) := by omega
        rw [ec, hds] at hcall
        clear S1
        go_wp2_with (go_at_fn 92; refine hcall.mono ?_; rintro e w1 ⟨rfl, S3⟩)
        go_roundg (i - j + j)
        case measure => omega
        case rel => exact ⟨i - j, j, rangeSwap dk (m - i) m j, by congr 1; omega, rfl, by omega, by omega, hj0, hjm, Nat.le_refl _, by rw [rangeSwap_size]; exact hds, S3, fun d' h => HR.out d' (rot_more dk d' him hlt (by omega) h)⟩
      · have hltz : ¬ (j : Int) < (i : Int) := by omega
        have hcall := swapRange (P := P) k L F94 enc g cb blk off cap (m - i) (m + j - i) i d0 dk w0 wr R (by omega) S1.out (by omega) (by omega) (by omega)
        have ec : ((m - i : Nat) : Int) = (m : Int) - (i : Int) := by omega
        have ec2 : ((m + j - i : Nat) : Int) = (m : Int) + (j : Int) - (i : Int) := by omega
        rw [ec, ec2, hds] at hcall
        clear S1
        go_wp2_with (go_at_fn 92; refine hcall.mono ?_; rintro e w1 ⟨rfl, S3⟩)
        go_roundg (i + (j - i))
        case measure => omega
        case rel => exact ⟨i, j - i, rangeSwap dk (m - i) (m + j - i) i, rfl, by congr 1; omega, hi0, him, by omega, by omega, Nat.le_refl _, by rw [rangeSwap_size]; exact hds, S3, fun d' h => HR.out d' (rot_less dk d' him hi0 (by omega) (by omega) h)⟩
end St
end Go.Proofs.YtacchooggifnhaaDoor
