/- slices.Sort at ints: a row of the call's own; cells of an own row, written. Own rows of structs: an element written, the tail cleared, cut short; the subjects that are kept. slices.Equal at subjects, texts that are the same. Printed by gen_lawsub.py. Plain: what counts for the subjects of an experiment. No program stands in it. -/
import Derived.Test.YtacchooggifnhaaTw06
import Derived.Sort.OwnSortedInts
import Derived.Test.YtacchooggifnhaaTw07
import Derived.Deep.MidRow
import Derived.Test.YtacchooggifnhaaTw05
namespace Go.Proofs.Ytacchooggifnhaa
open Go.RowKit Go.Sort Go.Shelf
namespace Ex
/-- a cell of an own row is written -/
theorem own_set {w : World} {base e size n g cap : Nat} {xs : List Value} (h : w.ownsRow base e size (.slice (some ⟨g, 0, none⟩) n cap) n xs) {i : Nat} (_hi : i < xs.length) (x : Value) : (w.setCell ⟨g, i, none⟩ x).ownsRow base e size (.slice (some ⟨g, 0, none⟩) n cap) n (xs.set i x) := by
  obtain ⟨h1, ⟨h2, _⟩ | ⟨g', cap', cur, hv, hb, hg, hn, hm, hs, ht⟩⟩ := h
  · cases h2
  · cases hv
    refine ⟨by rw [List.length_set]; exact h1, .inr ⟨g, cap, cur.setIfInBounds i x, rfl, hb, ?_, hn, hm, by simpa using hs, ?_⟩⟩
    · simp only [World.setCell, Array.getElem?_modify, hg]; simp
    · rw [Array.toList_setIfInBounds, ← ht, List.take_set]
theorem own_cell {w : World} {base e size n g cap : Nat} {xs : List Value} (h : w.ownsRow base e size (.slice (some ⟨g, 0, none⟩) n cap) n xs) {i : Nat} {x : Value} (hi : xs[i]? = some x) : w.cell? ⟨g, i, none⟩ = some x ∧ w.frozen? ⟨g, i, none⟩ = false := by
  obtain ⟨h1, ⟨h2, _⟩ | ⟨g', cap', cur, hv, hb, hg, hn, hm, hs, ht⟩⟩ := h
  · cases h2
  · cases hv
    have hlt := (List.getElem?_eq_some_iff.1 hi).1
    rw [← ht, List.getElem?_take] at hi
    split at hi
    · refine ⟨?_, by simp [World.frozen?, hg]⟩
      simp only [World.cell?, hg]
      simpa using hi
    · cases hi
theorem own_form {w : World} {base e size n : Nat} {v : Value} {xs : List Value} (h : w.ownsRow base e size v n xs) (hn : 0 < n) : ∃ g cap, v = .slice (some ⟨g, 0, none⟩) n cap ∧ base ≤ g := by
  obtain ⟨h1, ⟨rfl, h2⟩ | ⟨g, cap, cur, rfl, hb, _⟩⟩ := h
  · omega
  · exact ⟨g, cap, rfl, hb⟩
end Ex
end Go.Proofs.Ytacchooggifnhaa
namespace Go.Proofs.Ytacchooggifnhaa
open Go.RowKit
namespace Ex
theorem sb_cells {w : World} {a : Option Addr} {n c k : Nat} {l : List Sbj} {e : Sbj} (s : Sl w (.slice a n c) n (l.flatMap sbL)) (h : l[k]? = some e) :
    ∃ b o, a = some ⟨b, o, none⟩ ∧ w.cell? ⟨b, o + k * 8, none⟩ = some (.string e.key) ∧ w.cell? ⟨b, o + k * 8 + 1, none⟩ = some (.int .i64 e.time) ∧ w.cell? ⟨b, o + k * 8 + 2, none⟩ = some (.int .i64 e.arm) ∧ w.cell? ⟨b, o + k * 8 + 3, none⟩ = some (.int .i64 e.count) ∧
      w.cell? ⟨b, o + k * 8 + 4, none⟩ = some (.int .i64 e.sum) ∧ w.cell? ⟨b, o + k * 8 + 5, none⟩ = some (.int .i64 e.early) ∧ w.cell? ⟨b, o + k * 8 + 6, none⟩ = some (.int .i64 e.earlySum) ∧ w.cell? ⟨b, o + k * 8 + 7, none⟩ = some (.bool e.closed) := by
  obtain ⟨b, o, ha, hc⟩ := s.elem sbL_len (by omega) h
  exact ⟨b, o, ha, hc 0 _ rfl, hc 1 _ rfl, hc 2 _ rfl, hc 3 _ rfl, hc 4 _ rfl, hc 5 _ rfl, hc 6 _ rfl, hc 7 _ rfl⟩
theorem box_sb {w : World} {b : Nat} {e : Sbj} (h : Box w b (sbC e)) : w.cell? ⟨b, 0, none⟩ = some (.string e.key) ∧ w.cell? ⟨b, 1, none⟩ = some (.int .i64 e.time) ∧ w.cell? ⟨b, 2, none⟩ = some (.int .i64 e.arm) ∧ w.cell? ⟨b, 3, none⟩ = some (.int .i64 e.count) ∧
      w.cell? ⟨b, 4, none⟩ = some (.int .i64 e.sum) ∧ w.cell? ⟨b, 5, none⟩ = some (.int .i64 e.early) ∧ w.cell? ⟨b, 6, none⟩ = some (.int .i64 e.earlySum) ∧ w.cell? ⟨b, 7, none⟩ = some (.bool e.closed) :=
  ⟨h.2 0, h.2 1, h.2 2, h.2 3, h.2 4, h.2 5, h.2 6, h.2 7⟩
/-- a subject whose arm counts -/
def keepB (arms : Int) (s : Sbj) : Bool := decide (s.arm < arms)
/-- the row while what does not count goes -/
structure DelInv (arms : Int) (U U' : List Sbj) (i j : Nat) : Prop where
  len : U'.length = U.length
  lt : i < j
  low : U'.take i = (U.take j).filter (keepB arms)
  high : U'.drop j = U.drop j
theorem DelInv.start {arms : Int} {U : List Sbj} {k : Nat} {s : Sbj} (h : ∀ j s, j < k → U[j]? = some s → keepB arms s = true) (hk : U[k]? = some s) (hs : keepB arms s = false) : DelInv arms U U k (k + 1) := by
  refine ⟨rfl, by omega, ?_, rfl⟩
  obtain ⟨hl, rfl⟩ := List.getElem?_eq_some_iff.1 hk
  rw [List.take_succ_eq_append_getElem hl, List.filter_append]
  have e1 : (U.take k).filter (keepB arms) = U.take k := by
    rw [List.filter_eq_self]
    intro x hx
    obtain ⟨i, hi, rfl⟩ := List.getElem_of_mem hx
    rw [List.length_take] at hi
    rw [List.getElem_take]
    exact h i _ (by omega) (List.getElem?_eq_getElem (by omega))
  rw [e1, List.filter_cons_of_neg (by rw [hs]; simp)]
  simp
theorem DelInv.get {arms : Int} {U U' : List Sbj} {i j : Nat} (h : DelInv arms U U' i j) : U'[j]? = U[j]? := by
  have e1 := congrArg (fun l : List Sbj => l[0]?) h.high
  simpa using e1
theorem DelInv.skip {arms : Int} {U U' : List Sbj} {i j : Nat} {s : Sbj} (h : DelInv arms U U' i j) (hj : U[j]? = some s) (hs : keepB arms s = false) : DelInv arms U U' i (j + 1) := by
  obtain ⟨hl, rfl⟩ := List.getElem?_eq_some_iff.1 hj
  refine ⟨h.len, by have := h.lt; omega, ?_, ?_⟩
  · rw [List.take_succ_eq_append_getElem hl, List.filter_append, List.filter_cons_of_neg (by rw [hs]; simp), h.low]
    simp
  · have := congrArg (List.drop 1) h.high
    simpa [List.drop_drop, Nat.add_comm] using this
theorem DelInv.fin {arms : Int} {U U' : List Sbj} {i j : Nat} (h : DelInv arms U U' i j) (hj : U.length ≤ j) (hi : i < U.length) : U'.take i = U.filter (keepB arms) ∧ (U.filter (keepB arms)).length = i := by
  have e1 := h.low
  rw [List.take_of_length_le hj] at e1
  refine ⟨e1, ?_⟩
  rw [← e1, List.length_take, h.len]; omega
end Ex
end Go.Proofs.Ytacchooggifnhaa
namespace Go.Proofs.Ytacchooggifnhaa
open Go.RowKit
namespace Ex
theorem one_cell' {w : World} {a : Option Addr} {n c k : Nat} {cs : List Value} {x : Value} (s : Sl w (.slice a n c) n cs) (h : cs[k]? = some x) : ∃ b o, a = some ⟨b, o, none⟩ ∧ w.cell? ⟨b, o + k, none⟩ = some x := by
  obtain ⟨a', cap, hv, _, _, _, h3⟩ := s
  cases hv
  obtain ⟨b, o, rfl, hc⟩ := h3 k x h
  exact ⟨b, o, rfl, hc⟩
set_option maxRecDepth 100000 in
set_option maxHeartbeats 16000000 in
theorem equal_subjects (l : List Sbj) (a a' : Option Addr) (c c' : Nat) (w : World) (s1 : Sl w (.slice a l.length c) l.length (l.flatMap sbL)) (s2 : Sl w (.slice a' l.length c') l.length (l.flatMap sbL)) :
    Calls Try.prog 15 #[.slice a l.length c, .slice a' l.length c'] w fun e w' => e = .returned (.bool true) ∧ Below w.heap.size w w' := by
  have hl := s1.len_le
  have hne : ((l.length : Int) != (l.length : Int)) = false := by simp
  go_enter Try.func15, Try.ntmps15
  go_wp2
  go_loopw [13] (fun i wr => ∃ k : Nat, k ≤ l.length ∧ i = .int .i64 k ∧ Below w.heap.size w wr) (fun i _ => l.length - (intOf i).toNat)
  case atStart => exact ⟨0, by omega, rfl, Below.refl _ _⟩
  case round =>
    obtain ⟨k, hk, rfl, hb⟩ := hrel
    by_cases hlt : k < l.length
    · have hgk := List.getElem?_eq_getElem hlt
      generalize l[k] = s at hgk
      obtain ⟨b, o, rfl, hcs⟩ := (s1.ext hb).elem sbL_len (by omega : 0 < 8) hgk
      obtain ⟨b', o', rfl, hcs'⟩ := (s2.ext hb).elem sbL_len (by omega : 0 < 8) hgk
      have e0 := hcs 0 _ rfl
      have f0 := hcs' 0 _ rfl
      have e1 := hcs 1 _ rfl
      have f1 := hcs' 1 _ rfl
      have e2 := hcs 2 _ rfl
      have f2 := hcs' 2 _ rfl
      have e3 := hcs 3 _ rfl
      have f3 := hcs' 3 _ rfl
      have e4 := hcs 4 _ rfl
      have f4 := hcs' 4 _ rfl
      have e5 := hcs 5 _ rfl
      have f5 := hcs' 5 _ rfl
      have e6 := hcs 6 _ rfl
      have f6 := hcs' 6 _ rfl
      have e7 := hcs 7 _ rfl
      have f7 := hcs' 7 _ rfl
      rw [Nat.add_zero] at e0 f0
      clear hcs hcs' hgk
      have hi0 : (0 : Int) ≤ (k : Int) := Int.natCast_nonneg _
      have hi1 : (k : Int) < (l.length : Int) := by omega
      go_wp2_with fail
      go_quiet (fail)
      go_wp2
      exact ⟨⟨k + 1, by omega, by go_num, below_drewN hb _⟩, by simp [intOf]; omega⟩
    · go_wp2
      go_ret
      exact ⟨rfl, hb⟩
set_option maxRecDepth 100000 in
set_option maxHeartbeats 16000000 in
theorem equal_strs (l : List ByteArray) (a a' : Option Addr) (c c' : Nat) (w : World) (s1 : Sl w (.slice a l.length c) l.length (l.map Value.string)) (s2 : Sl w (.slice a' l.length c') l.length (l.map Value.string)) :
    Calls Try.prog 16 #[.slice a l.length c, .slice a' l.length c'] w fun e w' => e = .returned (.bool true) ∧ Below w.heap.size w w' := by
  have hl := s1.len_le
  have hne : ((l.length : Int) != (l.length : Int)) = false := by simp
  go_enter Try.func16, Try.ntmps16
  go_wp2
  go_loopw [13] (fun i wr => ∃ k : Nat, k ≤ l.length ∧ i = .int .i64 k ∧ Below w.heap.size w wr) (fun i _ => l.length - (intOf i).toNat)
  case atStart => exact ⟨0, by omega, rfl, Below.refl _ _⟩
  case round =>
    obtain ⟨k, hk, rfl, hb⟩ := hrel
    by_cases hlt : k < l.length
    · have hgk : (l.map Value.string)[k]? = some (Value.string l[k]) := by rw [List.getElem?_map, List.getElem?_eq_getElem hlt]; rfl
      generalize l[k] = s at hgk
      obtain ⟨b, o, rfl, e0⟩ := one_cell' (s1.ext hb) hgk
      obtain ⟨b', o', rfl, f0⟩ := one_cell' (s2.ext hb) hgk
      have hi0 : (0 : Int) ≤ (k : Int) := Int.natCast_nonneg _
      have hi1 : (k : Int) < (l.length : Int) := by omega
      clear hgk
      go_wp2_with fail
      go_quiet (fail)
      go_wp2
      exact ⟨⟨k + 1, by omega, by go_num, below_drewN hb _⟩, by simp [intOf]; omega⟩
    · go_wp2
      go_ret
      exact ⟨rfl, hb⟩
end Ex
end Go.Proofs.Ytacchooggifnhaa
namespace Go.Proofs.Ytacchooggifnhaa
namespace Ex
/-- an outcome with the name -/
def isOutc (name : ByteArray) (e : Ev) : Bool := decide (e.kind = 2) && decide (e.name = name)
/-- the outcomes of a key -/
def outsK (name : ByteArray) (l : List Ev) (key : ByteArray) : List Ev := l.filter (fun e => isOutc name e && decide (e.key = key))
/-- one outcome more: how it counts for a subject -/
def cntS (fr to bf : Int) (s : Sbj) (e : Ev) : Sbj :=
  if fr ≤ e.time - s.time ∧ e.time - s.time < to then { s with count := s.count + 1, sum := s.sum + e.n }
  else if e.time - s.time < 0 ∧ -bf ≤ e.time - s.time then { s with early := s.early + 1, earlySum := s.earlySum + e.n } else s
def cntX (fr to bf : Int) (name : ByteArray) (l : List Ev) (s : Sbj) : Sbj := (outsK name l s.key).foldl (cntS fr to bf) s
theorem cntS_in {fr to bf : Int} {s : Sbj} {e : Ev} (h : fr ≤ e.time - s.time ∧ e.time - s.time < to) : cntS fr to bf s e = { s with count := s.count + 1, sum := s.sum + e.n } := if_pos h
theorem cntS_early {fr to bf : Int} {s : Sbj} {e : Ev} (h : ¬ (fr ≤ e.time - s.time ∧ e.time - s.time < to)) (k : e.time - s.time < 0 ∧ -bf ≤ e.time - s.time) : cntS fr to bf s e = { s with early := s.early + 1, earlySum := s.earlySum + e.n } := (if_neg h).trans (if_pos k)
theorem cntS_out {fr to bf : Int} {s : Sbj} {e : Ev} (h : ¬ (fr ≤ e.time - s.time ∧ e.time - s.time < to)) (k : ¬ (e.time - s.time < 0 ∧ -bf ≤ e.time - s.time)) : cntS fr to bf s e = s := (if_neg h).trans (if_neg k)
theorem cntS_same (fr to bf : Int) (s : Sbj) (e : Ev) : (cntS fr to bf s e).key = s.key ∧ (cntS fr to bf s e).time = s.time ∧ (cntS fr to bf s e).arm = s.arm ∧ (cntS fr to bf s e).closed = s.closed := by
  unfold cntS
  split
  · exact ⟨rfl, rfl, rfl, rfl⟩
  · split
    · exact ⟨rfl, rfl, rfl, rfl⟩
    · exact ⟨rfl, rfl, rfl, rfl⟩
theorem fold_same (fr to bf : Int) : ∀ (L : List Ev) (s : Sbj), (L.foldl (cntS fr to bf) s).key = s.key ∧ (L.foldl (cntS fr to bf) s).time = s.time ∧ (L.foldl (cntS fr to bf) s).arm = s.arm ∧ (L.foldl (cntS fr to bf) s).closed = s.closed
  | [], s => ⟨rfl, rfl, rfl, rfl⟩
  | e :: L, s => by
    obtain ⟨h1, h2, h3, h4⟩ := fold_same fr to bf L (cntS fr to bf s e)
    obtain ⟨g1, g2, g3, g4⟩ := cntS_same fr to bf s e
    exact ⟨h1.trans g1, h2.trans g2, h3.trans g3, h4.trans g4⟩
theorem cntX_same (fr to bf : Int) (name : ByteArray) (l : List Ev) (s : Sbj) : (cntX fr to bf name l s).key = s.key ∧ (cntX fr to bf name l s).time = s.time ∧ (cntX fr to bf name l s).arm = s.arm ∧ (cntX fr to bf name l s).closed = s.closed := fold_same fr to bf _ s
theorem fold_take {α β : Type} {f : α → β → α} {l : List β} {k : Nat} {e : β} (h : l[k]? = some e) (a : α) : (l.take (k + 1)).foldl f a = f ((l.take k).foldl f a) e := by
  obtain ⟨hk, rfl⟩ := List.getElem?_eq_some_iff.1 h
  rw [List.take_succ_eq_append_getElem hk, List.foldl_append]; rfl
/-- how great the counts are after so many outcomes -/
structure CntB (j : Nat) (s : Sbj) : Prop where
  c : 0 ≤ s.count ∧ s.count ≤ j
  u : -(1000000000000 * (j : Int)) ≤ s.sum ∧ s.sum ≤ 1000000000000 * (j : Int)
  e : 0 ≤ s.early ∧ s.early ≤ j
  v : -(1000000000000 * (j : Int)) ≤ s.earlySum ∧ s.earlySum ≤ 1000000000000 * (j : Int)
theorem CntB.step {j : Nat} {s : Sbj} (h : CntB j s) {e : Ev} (he : -1000000000000 ≤ e.n ∧ e.n ≤ 1000000000000) (fr to bf : Int) : CntB (j + 1) (cntS fr to bf s e) := by
  obtain ⟨h1, h2, h3, h4⟩ := h
  unfold cntS
  split
  · exact ⟨by simp only; omega, by simp only; omega, by simp only; omega, by simp only; omega⟩
  · split
    · exact ⟨by simp only; omega, by simp only; omega, by simp only; omega, by simp only; omega⟩
    · exact ⟨by omega, by omega, by omega, by omega⟩
theorem CntB.mono {j k : Nat} {s : Sbj} (h : CntB j s) (hk : j ≤ k) : CntB k s := by
  obtain ⟨h1, h2, h3, h4⟩ := h
  exact ⟨by omega, by omega, by omega, by omega⟩
theorem CntB.fold {fr to bf : Int} {s : Sbj} (h : CntB 0 s) : ∀ (L : List Ev), (∀ e ∈ L, -1000000000000 ≤ e.n ∧ e.n ≤ 1000000000000) → ∀ k, k ≤ L.length → CntB k ((L.take k).foldl (cntS fr to bf) s) := by
  intro L hL k
  induction k with
  | zero => intro _; rw [List.take_zero]; exact h
  | succ k ih =>
    intro hk
    have hg := List.getElem?_eq_getElem (show k < L.length by omega)
    rw [fold_take hg]
    exact (ih (by omega)).step (hL _ (List.getElem_mem _)) _ _ _
theorem subj_cnt (p : ByteArray × Ev) : CntB 0 (subjOf p) := ⟨by simp [subjOf], by simp [subjOf], by simp [subjOf], by simp [subjOf]⟩
theorem expR_cnt {F : Fst} {M : Mix} {o : List Sbj} {ks : List ByteArray} (h : ExpR F M o ks) : ∀ s ∈ o, CntB 0 s ∧ s.count = 0 ∧ s.sum = 0 ∧ s.early = 0 ∧ s.earlySum = 0 ∧ s.closed = false := by
  intro s hs
  obtain ⟨p, _, _, rfl⟩ := (h.2.1 s).1 hs
  exact ⟨subj_cnt p, rfl, rfl, rfl, rfl, rfl⟩
/-! ### outcomes, event by event -/
theorem outsK_take {name : ByteArray} {l : List Ev} {k : Nat} {e : Ev} (h : l[k]? = some e) (key : ByteArray) : outsK name (l.take (k + 1)) key = outsK name (l.take k) key ++ if isOutc name e = true ∧ e.key = key then [e] else [] := by
  obtain ⟨hk, rfl⟩ := List.getElem?_eq_some_iff.1 h
  unfold outsK
  rw [List.take_succ_eq_append_getElem hk, List.filter_append]
  congr 1
  by_cases h1 : isOutc name l[k] = true ∧ l[k].key = key
  · rw [if_pos h1]; simp [h1.1, h1.2]
  · rw [if_neg h1]
    simp only [List.filter_cons, List.filter_nil]
    rw [if_neg (by simpa using h1)]
theorem outsK_len (name : ByteArray) (l : List Ev) (key : ByteArray) : (outsK name l key).length ≤ l.length := List.length_filter_le _ _
theorem outsK_mem {name : ByteArray} {l : List Ev} {key : ByteArray} {e : Ev} (h : e ∈ outsK name l key) : e ∈ l ∧ e.kind = 2 ∧ e.name = name ∧ e.key = key := by
  obtain ⟨h1, h2⟩ := List.mem_filter.1 h
  simp only [isOutc, Bool.and_eq_true, decide_eq_true_eq] at h2
  exact ⟨h1, h2.1.1, h2.1.2, h2.2⟩
theorem cntX_none {fr to bf : Int} {name : ByteArray} {l : List Ev} {k : Nat} {e : Ev} (h : l[k]? = some e) {s : Sbj} (hn : ¬ (isOutc name e = true ∧ e.key = s.key)) : cntX fr to bf name (l.take (k + 1)) s = cntX fr to bf name (l.take k) s := by
  unfold cntX; rw [outsK_take h, if_neg hn, List.append_nil]
theorem cntX_one {fr to bf : Int} {name : ByteArray} {l : List Ev} {k : Nat} {e : Ev} (h : l[k]? = some e) {s : Sbj} (hn : isOutc name e = true ∧ e.key = s.key) : cntX fr to bf name (l.take (k + 1)) s = cntS fr to bf (cntX fr to bf name (l.take k) s) e := by
  unfold cntX; rw [outsK_take h, if_pos hn, List.foldl_append]; rfl
/-- an event that is no outcome of one of the subjects -/
theorem cnts_none {fr to bf : Int} {name : ByteArray} {l : List Ev} {k : Nat} {e : Ev} (h : l[k]? = some e) {o : List Sbj} (hn : isOutc name e = false ∨ ∀ s ∈ o, s.key ≠ e.key) : o.map (cntX fr to bf name (l.take (k + 1))) = o.map (cntX fr to bf name (l.take k)) := by
  refine List.map_congr_left fun s hs => cntX_none h ?_
  rintro ⟨h1, h2⟩
  rcases hn with hn | hn
  · rw [hn] at h1; cases h1
  · exact hn s hs h2.symm
theorem asc_keys {o : List Sbj} (ha : AscK o) {i j : Nat} {s t : Sbj} (hi : o[i]? = some s) (hj : o[j]? = some t) (h : s.key = t.key) : i = j := by
  obtain ⟨h1, rfl⟩ := List.getElem?_eq_some_iff.1 hi
  obtain ⟨h2, rfl⟩ := List.getElem?_eq_some_iff.1 hj
  have hp := List.pairwise_iff_getElem.1 ha
  rcases Nat.lt_trichotomy i j with h3 | h3 | h3
  · have := hp i j h1 h2 h3
    rw [h, cmpS_self] at this; omega
  · exact h3
  · have := hp j i h2 h1 h3
    rw [h, cmpS_self] at this; omega
/-- an outcome of the subject i -/
theorem cnts_one {fr to bf : Int} {name : ByteArray} {l : List Ev} {k : Nat} {e : Ev} (h : l[k]? = some e) {o : List Sbj} (ha : AscK o) {i : Nat} {s : Sbj} (hi : o[i]? = some s) (hn : isOutc name e = true) (hk : s.key = e.key) :
    o.map (cntX fr to bf name (l.take (k + 1))) = (o.map (cntX fr to bf name (l.take k))).set i (cntS fr to bf (cntX fr to bf name (l.take k) s) e) := by
  apply List.ext_getElem?
  intro q
  rw [List.getElem?_map, List.getElem?_set, List.length_map]
  have hil := (List.getElem?_eq_some_iff.1 hi).1
  by_cases e1 : i = q
  · subst e1
    rw [if_pos rfl, if_pos hil, hi, Option.map_some, cntX_one h ⟨hn, hk.symm⟩]
  · rw [if_neg e1, List.getElem?_map]
    cases hq : o[q]? with
    | none => rfl
    | some t =>
      rw [Option.map_some, Option.map_some, cntX_none h]
      rintro ⟨_, h2⟩
      exact e1 (asc_keys ha hi hq (hk.trans h2))
/-! ### the places of the subjects -/
def placeL (o : List Sbj) : List (ByteArray × Int) := o.zipIdx.map (fun p => (p.1.key, (p.2 : Int)))
theorem placeL_snoc (o : List Sbj) (s : Sbj) : placeL (o ++ [s]) = placeL o ++ [(s.key, (o.length : Int))] := by
  simp [placeL, List.zipIdx_append]
theorem placeL_mem {o : List Sbj} {p : ByteArray × Int} (h : p ∈ placeL o) : ∃ (i : Nat) (s : Sbj), o[i]? = some s ∧ p = (s.key, (i : Int)) := by
  obtain ⟨q, hq, rfl⟩ := List.mem_map.1 h
  obtain ⟨s, i⟩ := q
  have := List.mem_zipIdx hq
  refine ⟨i, s, ?_, rfl⟩
  obtain ⟨_, h2, h3⟩ := this
  simp only [Nat.sub_zero, Nat.zero_add] at h2 h3
  rw [List.getElem?_eq_getElem h2, ← h3]
theorem placeL_keys (o : List Sbj) : (placeL o).map (·.1) = o.map (·.key) := by
  apply List.ext_getElem?
  intro q
  simp only [placeL, List.getElem?_map, List.getElem?_zipIdx, Option.map_map]
  cases o[q]? <;> rfl
theorem placeL_cases {o : List Sbj} (_ha : AscK o) (key : ByteArray) : (look (placeL o) key = none ∧ ∀ s ∈ o, s.key ≠ key) ∨ ∃ (i : Nat) (s : Sbj), o[i]? = some s ∧ s.key = key ∧ look (placeL o) key = some (i : Int) := by
  cases hl : look (placeL o) key with
  | none =>
    left
    refine ⟨rfl, fun s hs e => look_none_keys.1 hl ?_⟩
    rw [placeL_keys, ← e]
    exact List.mem_map.2 ⟨s, hs, rfl⟩
  | some z =>
    right
    obtain ⟨i, s, h1, h2⟩ := placeL_mem (look_some_mem hl)
    obtain ⟨h3, h4⟩ := Prod.mk.inj h2
    exact ⟨i, s, h1, h3.symm, by rw [h4]⟩
theorem placeL_put {o : List Sbj} (ha : AscK o) {i : Nat} {s : Sbj} (h : o[i]? = some s) : putL (placeL (o.take i)) s.key (i : Int) = placeL (o.take (i + 1)) := by
  obtain ⟨hk, rfl⟩ := List.getElem?_eq_some_iff.1 h
  rw [List.take_succ_eq_append_getElem hk, placeL_snoc, List.length_take, Nat.min_eq_left (by omega)]
  refine putL_new _ _ _ ?_
  rw [List.findIdx?_eq_none_iff]
  intro z hz
  rw [placeL_keys] at hz
  obtain ⟨t, ht, rfl⟩ := List.mem_map.1 hz
  obtain ⟨j, hj, rfl⟩ := List.getElem_of_mem ht
  rw [List.length_take] at hj
  rw [List.getElem_take]
  have := List.pairwise_iff_getElem.1 ha j i (by omega) hk (by omega)
  simp only [decide_eq_false_iff_not]
  intro e
  rw [e, cmpS_self] at this; omega
/-! ### returned -/
/-- one outcome more: how it counts for one who came back -/
def retS (fr to : Int) (s : Sbj) (e : Ev) : Sbj := if fr ≤ e.time - s.time ∧ e.time - s.time < to then { s with count := s.count + 1 } else s
def retX (fr to : Int) (name : ByteArray) (l : List Ev) (s : Sbj) : Sbj := (outsK name l s.key).foldl (retS fr to) s
theorem ret_step (fr to : Int) (s t : Sbj) (e : Ev) (h : { s with sum := 0 } = t) : { cntS fr to 0 s e with sum := 0 } = retS fr to t e := by
  subst h
  unfold cntS retS
  by_cases h1 : fr ≤ e.time - s.time ∧ e.time - s.time < to
  · rw [if_pos h1, if_pos h1]
  · rw [if_neg h1, if_neg h1, if_neg (by omega)]
theorem ret_fold (fr to : Int) : ∀ (L : List Ev) (s t : Sbj), { s with sum := 0 } = t → { L.foldl (cntS fr to 0) s with sum := 0 } = L.foldl (retS fr to) t
  | [], _, _, h => h
  | e :: L, s, t, h => ret_fold fr to L _ _ (ret_step fr to s t e h)
theorem ret_is {fr to : Int} {name : ByteArray} {l : List Ev} {s : Sbj} (h : s.sum = 0) : { cntX fr to 0 name l s with sum := 0 } = retX fr to name l s := by
  unfold cntX retX
  refine ret_fold fr to _ s s ?_
  obtain ⟨a, b, c, d, e, f, g, i⟩ := s
  simp only at h
  rw [h]
/-- the subjects with what counts for them -/
def subS (len bf : Int) (name : ByteArray) (kn : Int) (l : List Ev) (s : Sbj) : Sbj := { cntX 0 len bf name l s with closed := decide (s.time + len ≤ kn) }
end Ex
end Go.Proofs.Ytacchooggifnhaa
