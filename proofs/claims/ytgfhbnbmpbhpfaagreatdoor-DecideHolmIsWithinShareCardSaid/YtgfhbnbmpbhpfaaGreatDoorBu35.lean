/- slices.SortStableFunc at a short row of ints, the order a closure that may lay blocks. Plain: which evidences are decided by the rule of Holm and as a share: from any row that is sorted, in terms that no order hangs in. The sorted row of numbers, in plain words. Maps of a call's own, as lists of pairs: any keys, any values. No program stands in it. -/
import Derived.Test.YtgfhbnbmpbhpfaaGreatDoorBu15
import Derived.Shelf.SlSortCmp.Insertion
import Derived.Sort.LotA
import Derived.Deep.LoopGhost
import Derived.Deep.QuietTactic
import Derived.Test.YtgfhbnbmpbhpfaaGreatDoorBu00
import Derived.Test.YtgfhbnbmpbhpfaaGreatDoorBu30
import Derived.Maps.OwnSet
namespace Go.Proofs.YtgfhbnbmpbhpfaaGreatDoor
open Go.RowKit Go.Lib
open Go.Sort (swp insInner insOuter)
namespace Nt
/-- a world grown from w -/
structure GrownOf (w : World) where
  v : World
  b : Below w.heap.size w v
instance (w : World) : Inhabited (GrownOf w) := ⟨⟨w, Below.refl _ _⟩⟩
theorem wp_region_below {P : Program} {id : Nat} {Q : Exit → Act → World → Prop} {a : Act} {w : World} {l : List Oper} (hm : P.follows .mixedOrders = true) (hB : Region.lexB .any l.toArray = true)
    (h : wpQuiet P l.toArray (fun w' => ∃ p : GrownOf w, w' = p.v) (fun a' => ∀ w', (∃ p : GrownOf w, w' = p.v) → Q .normal a' w') l a) : (Code.region id l.toArray true).wp P Q a w :=
  wp_region_quiet (C := fun w' => ∃ p : GrownOf w, w' = p.v) hm hB ⟨⟨w.drew, by go_grown⟩, rfl⟩ (by simpa using h)
theorem Calls.grows {P : Program} {f : FuncId} {args : Array Value} {w : World} {p : GrownOf w} {v : Value}
    (h : Calls P f args p.v fun e w' => e = .returned v ∧ Below p.v.heap.size p.v w') : Calls P f args p.v fun e w'' => e = .returned v ∧ ∃ q : GrownOf w, w'' = q.v :=
  h.mono fun _ w' ⟨he, hb⟩ => ⟨he, ⟨w', ext_trans p.b hb⟩, rfl⟩
theorem GrownOf.of {w w' : World} (h : ∃ p : GrownOf w, w' = p.v) : Below w.heap.size w w' := by
  obtain ⟨p, rfl⟩ := h
  exact p.b
macro "go_quiet_below " "(" tac:tactic ")" : tactic => `(tactic|
  (refine wp_region_below (by kernel_rfl) (by kernel_rfl) ?_
   repeat (quiet_step ($tac:tactic))
   refine wpQuiet_nil ?_
   intro $(Lean.mkIdent `wq):ident hw'
   have $(Lean.mkIdent `hbq):ident := GrownOf.of hw'
   clear hw'))
theorem w_drew (w : World) : Below w.heap.size w w.drew := (Below.refl _ _).drew
/-- the sort's row: grown from the world wB but for the row's own block -/
structure SB (base : Nat) (wB W : World) (blk n : Nat) (d : Array Nat) : Prop where
  low : Below base wB W
  own : Own W blk d.toList
  lt : ∀ i, i < d.size → d[i]! < n
theorem SB.ext {base : Nat} {wB W W' : World} {blk n : Nat} {d : Array Nat} (h : SB base wB W blk n d) (hb : Below W.heap.size W W') (hle : base ≤ W.heap.size) : SB base wB W' blk n d :=
  ⟨h.low.trans (hb.mono hle), h.own.ext hb, h.lt⟩
theorem SB.cell {base : Nat} {wB W : World} {blk n : Nat} {d : Array Nat} (h : SB base wB W blk n d) {i : Nat} (hi : i < d.size) : W.cell? ⟨blk, i, none⟩ = some (.int .i64 (d[i]! : Int)) := by
  have := h.own.cell (i := i) (by simpa using hi)
  rw [this, getElem!_pos d i hi]; simp
theorem SB.swp {base : Nat} {wB W : World} {blk n : Nat} {d : Array Nat} (h : SB base wB W blk n d) (hblk : base ≤ blk) {i j : Nat} (hi : i < d.size) (hj : j < d.size) :
    SB base wB ((W.setCell ⟨blk, i, none⟩ (.int .i64 (d[j]! : Int))).setCell ⟨blk, j, none⟩ (.int .i64 (d[i]! : Int))).drew blk n (swp d i j) := by
  refine ⟨?_, ?_, ?_⟩
  · exact ((h.low.setCell (p := ⟨blk, i, none⟩) hblk _).setCell (p := ⟨blk, j, none⟩) hblk _).drew
  · have := (h.own.set (i := i) (by simpa using hi) d[j]!).set (i := j) (by simpa using hj) d[i]!
    unfold Go.Sort.swp
    refine Own.drew ?_
    simpa using this
  · intro k hk
    have hk' : k < d.size := by rw [Go.Sort.swp_size] at hk; exact hk
    rw [Go.Sort.swp_get d hi hj k]
    split
    · exact h.lt _ hi
    · split
      · exact h.lt _ hj
      · exact h.lt _ hk'
/-- what is asked of the closure: in every world grown from wB (beside the row), at numbers under n -/
def CmpB (pv : Value) (cf : Nat → Nat → Int) (base n : Nat) (wB : World) : Prop :=
  ∀ W, Below base wB W → ∀ x y : Nat, x < n → y < n → Calls Tryz.prog 155 #[.int .i64 (x : Int), .int .i64 (y : Int), pv] W fun e w' => e = .returned (.int .i64 (cf x y)) ∧ Below W.heap.size W w'
set_option maxHeartbeats 4000000 in
set_option maxRecDepth 100000 in
theorem ins_at (cf : Nat → Nat → Int) (pv : Value) (base blk cap n : Nat) (wB : World) (d : Array Nat) (w : World) (hC : CmpB pv cf base n wB) (hS : SB base wB w blk n d) (hbase : base ≤ blk) (hw : base ≤ w.heap.size) (hn : d.size ≤ 1000) :
    Calls Tryz.prog 216 #[.slice (some ⟨blk, 0, none⟩) d.size cap, .int .i64 0, .int .i64 (d.size : Int), .func (.func 155) #[] #[pv]] w fun e w' => e = .returned (.tuple #[]) ∧ SB base wB w' blk n (Go.Sort.insertionSort (ltOf cf) d 0 d.size) ∧ Below base wB w' ∧ base ≤ w'.heap.size := by
  have HC := Lib.hid hC
  have S0 := Lib.hid hS
  clear hC hS
  go_enter Tryz.func216, Tryz.ntmps216
  go_wp2
  go_loopg [8] d.size (fun g1 vi wr => ∃ (i : Nat) (dk : Array Nat), vi = .int .i64 (i : Int) ∧ 0 < i ∧ i ≤ d.size + 1 ∧ d.size + 1 - i ≤ g1 + 1 ∧ dk.size = d.size ∧ base ≤ wr.heap.size ∧ Hid (SB base wB wr blk n dk) ∧ Hid (insOuter (ltOf cf) 0 d.size i dk = insOuter (ltOf cf) 0 d.size (0 + 1) d))
  case atStart => exact ⟨1, d, by go_num, by omega, by omega, by omega, rfl, hw, S0, rfl⟩
  case round =>
    clear S0
    obtain ⟨i, dk, rfl, hai, hib, hg1, hsk, hwr, S1, HO⟩ := hrel
    by_cases hlt : i < d.size
    · have hltz : (i : Int) < (d.size : Int) := by omega
      go_wp2
      go_loopg [9] i (fun g2 vj wr2 => ∃ (j : Nat) (dj : Array Nat), vj = .int .i64 (j : Int) ∧ j ≤ i ∧ j ≤ g2 ∧ dj.size = d.size ∧ base ≤ wr2.heap.size ∧ Hid (SB base wB wr2 blk n dj) ∧ Hid (insInner (ltOf cf) 0 j dj = insInner (ltOf cf) 0 i dk))
      case atStart => exact ⟨i, dk, rfl, Nat.le_refl _, Nat.le_refl _, hsk, hwr, S1, rfl⟩
      case round =>
        clear S1
        obtain ⟨j, dj, rfl, hji, hg2, hsj, hw2, SJ, HI⟩ := hrel
        have OUT : Hid ((j ≤ 0 ∨ (ltOf cf) dj[j]! dj[j - 1]! = false) → Hid (insOuter (ltOf cf) 0 d.size (i + 1) dj = insOuter (ltOf cf) 0 d.size (0 + 1) d)) := fun hs => by
          show _ = _
          rw [← HO.out, insOuter_go _ _ _ _ _ hlt, ← HI.out, insInner_stop _ _ _ _ hs]
        by_cases hja : 0 < j
        · obtain ⟨jp, rfl⟩ : ∃ q, j = q + 1 := ⟨j - 1, by omega⟩
          obtain ⟨x, hx⟩ : ∃ x, x = dj[jp + 1]! := ⟨_, rfl⟩
          obtain ⟨y, hy⟩ : ∃ x, x = dj[jp]! := ⟨_, rfl⟩
          have HLT := Lib.hid (show x < n ∧ y < n from ⟨by rw [hx]; exact SJ.out.lt _ (by omega), by rw [hy]; exact SJ.out.lt _ (by omega)⟩)
          have hl1 : ∀ p : GrownOf wr, p.v.cell? ⟨blk, jp + 1, none⟩ = some (.int .i64 (x : Int)) := fun p => by rw [hx]; exact (SJ.out.ext p.b hw2).cell (by omega)
          have hl0 : ∀ p : GrownOf wr, p.v.cell? ⟨blk, jp, none⟩ = some (.int .i64 (y : Int)) := fun p => by rw [hy]; exact (SJ.out.ext p.b hw2).cell (by omega)
          have hc : ∀ p : GrownOf wr, Calls Tryz.prog 155 #[.int .i64 (x : Int), .int .i64 (y : Int), pv] p.v fun e w' => e = .returned (.int .i64 (cf x y)) ∧ Below p.v.heap.size p.v w' := fun p => HC.out _ (SJ.out.ext p.b hw2).low x y HLT.out.1 HLT.out.2
          have ra : IntKind.i64.wrap (jp : Int) = (jp : Int) := by rw [IntKind.wrap_i64]; omega
          have e1 : ((jp : Int) + 1).toNat = jp + 1 := by omega
          have e0 : (jp : Int).toNat = jp := by omega
          have p1 : (0 : Int) ≤ (jp : Int) + 1 := by omega
          have p0 : (0 : Int) ≤ (jp : Int) := by omega
          have b1 : (jp : Int) + 1 < (d.size : Int) := by omega
          have b0 : (jp : Int) < (d.size : Int) := by omega
          have h00 : (0 : Int) < (jp : Int) + 1 := by omega
          have hj1 : ((jp + 1 : Nat) : Int) = (jp : Int) + 1 := by omega
          rw [hj1]
          have HX := Lib.hid hx
          have HY := Lib.hid hy
          clear hx hy
          cases hlv : (ltOf cf) dj[jp + 1]! dj[jp]! with
          | true =>
            have hv : decide (cf x y < 0) = true := by rw [HX.out, HY.out]; exact hlv
            have hv' : cf x y < 0 := of_decide_eq_true hv
            have hlv' : (ltOf cf) dj[jp + 1]! dj[jp + 1 - 1]! = true := hlv
            have HI' : Hid (insInner (ltOf cf) 0 jp (swp dj (jp + 1) jp) = insInner (ltOf cf) 0 i dk) := Lib.hid (by rw [← HI.out, insInner_go (ltOf cf) 0 (jp + 1) dj (by omega) hlv']; rfl)
            go_wp2_with fail
            go_quiet_below (first | (go_at_call 155; refine Calls.grows (hc _)))
            have hwq : base ≤ wq.heap.size := Nat.le_trans hw2 hbq.size
            have S2 := SJ.out.ext hbq hw2
            have S3 := Lib.hid (S2.swp hbase (i := jp + 1) (j := jp) (by omega) (by omega))
            have hk1 := S2.cell (i := jp + 1) (by omega)
            have hk0 := S2.cell (i := jp) (by omega)
            rw [← HX.out] at hk1 S3
            rw [← HY.out] at hk0 S3
            have hf1 : wq.frozen? ⟨blk, jp + 1, none⟩ = false := S2.own.frozen _
            have hf0 : wq.frozen? ⟨blk, jp, none⟩ = false := S2.own.frozen _
            have hne : (⟨blk, jp + 1, none⟩ : Addr) ≠ ⟨blk, jp, none⟩ := by intro h; simp at h
            clear S2 hl1 hl0 hc SJ hbq hwr
            go_wp2_with fail
            go_big_region
            clear hk1 hk0 hf1 hf0 hne
            have hs9 : (swp dj (jp + 1) jp).size = d.size := by rw [Go.Sort.swp_size]; exact hsj
            generalize ((wq.setCell ⟨blk, jp + 1, none⟩ (.int .i64 (y : Int))).setCell ⟨blk, jp, none⟩ (.int .i64 (x : Int))).drew = w3 at S3 ⊢
            have hw9 : base ≤ w3.heap.size := Nat.le_trans hbase (Nat.le_of_lt S3.out.own.lt)
            go_wp2
            go_roundg jp
            case measure => omega
            case rel => exact ⟨jp, swp dj (jp + 1) jp, rfl, by omega, Nat.le_refl _, hs9, hw9, S3, HI'⟩
          | false =>
            have hv : decide (cf x y < 0) = false := by rw [HX.out, HY.out]; exact hlv
            have hv' : ¬ cf x y < 0 := of_decide_eq_false hv
            go_wp2_with fail
            go_quiet_below (first | (go_at_call 155; refine Calls.grows (hc _)))
            have hwq : base ≤ wq.heap.size := Nat.le_trans hw2 hbq.size
            have S2 := Lib.hid (SJ.out.ext hbq hw2)
            clear hl1 hl0 hc SJ hbq hwr
            go_wp2
            go_roundg (d.size - (i + 1))
            case measure => omega
            case rel => exact ⟨i + 1, dj, by go_num, by omega, by omega, by omega, hsj, hwq, S2, OUT.out (Or.inr hlv)⟩
        · obtain rfl : j = 0 := by omega
          have hjz : decide (((0 : Nat) : Int) > 0) = false := rfl
          have S2 := Lib.hid (SJ.out.ext (w_drew wr) hw2)
          clear SJ
          go_wp2_with fail
          go_big_region
          have hw9 : base ≤ wr.drew.heap.size := hw2
          generalize wr.drew = w3 at S2 hw9 ⊢
          go_wp2
          go_roundg (d.size - (i + 1))
          case measure => omega
          case rel => exact ⟨i + 1, dj, by go_num, by omega, by omega, by omega, hsj, hw9, S2, OUT.out (Or.inl (Nat.le_refl _))⟩
    · have hltz : ¬ (i : Int) < (d.size : Int) := by omega
      go_wp2
      go_end0
      exact ⟨rfl, by unfold Go.Sort.insertionSort; rw [← HO.out, insOuter_stop _ _ _ _ _ hlt]; exact S1.out, S1.out.low, hwr⟩
def SrtPost (base blk n : Nat) (wB : World) (cf : Nat → Nat → Int) (d : Array Nat) (e : Ending) (w' : World) : Prop :=
  e = .returned (.tuple #[]) ∧ SB base wB w' blk n (Go.Sort.insertionSort (ltOf cf) d 0 d.size) ∧ base ≤ w'.heap.size
set_option maxHeartbeats 2000000 in
theorem stable_at (cf : Nat → Nat → Int) (pv : Value) (base blk cap n : Nat) (wB : World) (d : Array Nat) (w : World) (hC : CmpB pv cf base n wB) (hS : SB base wB w blk n d) (hbase : base ≤ blk) (hw : base ≤ w.heap.size) (hn : d.size < 20) :
    Calls Tryz.prog 192 #[.slice (some ⟨blk, 0, none⟩) d.size cap, .int .i64 (d.size : Int), .func (.func 155) #[] #[pv]] w (SrtPost base blk n wB cf d) := by
  have HC := Lib.hid hC
  have S0 := Lib.hid hS
  clear hC hS
  have h20 : ¬ (20 : Int) ≤ (d.size : Int) := by omega
  have h21 : ¬ (20 : Int) < (d.size : Int) := by omega
  go_enter Tryz.func192, Tryz.ntmps192
  go_wp2_with fail
  go_loopw [7, 8] (fun x y wr => x = .int .i64 0 ∧ y = .int .i64 20 ∧ wr = w) (fun _ _ _ => 0)
  case atStart => exact ⟨rfl, rfl, rfl⟩
  case round =>
    obtain ⟨rfl, rfl, rfl⟩ := hrel
    go_wp2_with fail
    refine (ins_at cf pv base blk cap n wB d _ HC.out S0.out hbase hw (by omega)).mono ?_
    rintro e w1 ⟨rfl, hs1, _, hw1⟩
    have S1 := Lib.hid hs1
    clear hs1 S0
    go_wp2_with fail
    go_loopw [6] (fun x wr => x = .int .i64 20 ∧ wr = w1) (fun _ _ => 0)
    case atStart => exact ⟨rfl, rfl⟩
    case round =>
      obtain ⟨rfl, rfl⟩ := hrel
      go_wp2
      go_end0
      exact ⟨rfl, S1.out, hw1⟩
theorem sortInts_at (cf : Nat → Nat → Int) (pv : Value) (base blk cap n : Nat) (wB : World) (d : Array Nat) (w : World) (hC : CmpB pv cf base n wB) (hS : SB base wB w blk n d) (hbase : base ≤ blk) (hw : base ≤ w.heap.size) (hn : d.size < 20) :
    Calls Tryz.prog 154 #[.slice (some ⟨blk, 0, none⟩) d.size cap, .func (.func 155) #[] #[pv]] w (SrtPost base blk n wB cf d) := by
  have HC := Lib.hid hC
  have S0 := Lib.hid hS
  clear hC hS
  go_enter Tryz.func154, Tryz.ntmps154
  go_wp2_with fail
  refine (stable_at cf pv base blk cap n wB d _ HC.out S0.out hbase hw hn).mono ?_
  rintro e w1 ⟨rfl, hs1, hw1⟩
  have S1 := Lib.hid hs1
  go_wp2
  go_end0
  exact ⟨rfl, S1.out, hw1⟩
end Nt
end Go.Proofs.YtgfhbnbmpbhpfaaGreatDoor
namespace Go.Proofs.YtgfhbnbmpbhpfaaGreatDoor
namespace Nm
/-- a row of places, the greatest value first -/
def Rk (v : Nat → Rat) (n : Nat) (P : List Nat) : Prop := P.Perm (List.range n) ∧ P.Pairwise (fun a b => v b ≤ v a)
theorem thr (p : Nat → Bool) : ∀ (P : List Nat), P.Pairwise (fun a b => p b = true → p a = true) → ∀ m (h : m < P.length), (m < P.countP p ↔ p P[m] = true)
  | [], _, m, h => by simp at h
  | q :: r, hp, m, h => by
    obtain ⟨h1, h2⟩ := List.pairwise_cons.1 hp
    by_cases hq : p q = true
    · rw [List.countP_cons_of_pos hq]
      cases m with
      | zero => simp [hq]
      | succ m => simpa using thr p r h2 m (by simpa using h)
    · rw [List.countP_cons_of_neg hq]
      have h0 : r.countP p = 0 := by
        rw [List.countP_eq_zero]
        intro a ha hpa
        exact hq (h1 a ha hpa)
      rw [h0]
      cases m with
      | zero => simp [hq]
      | succ m =>
        simp only [List.getElem_cons_succ, Nat.not_lt_zero, false_iff]
        intro hh
        exact hq (h1 _ (List.getElem_mem _) hh)
/-- first place at which the rule fails -/
def hJ (v : Nat → Rat) (th : Nat → Rat) : List Nat → Nat → Nat
  | [], j => j
  | p :: r, j => if v p < th j then j else hJ v th r (j + 1)
theorem hJ_facts (v th : Nat → Rat) : ∀ (P : List Nat) (j : Nat), j ≤ hJ v th P j ∧ hJ v th P j ≤ j + P.length ∧ (∀ m (h : m < P.length), j + m < hJ v th P j → th (j + m) ≤ v P[m]) ∧ (∀ m (h : m < P.length), j + m = hJ v th P j → v P[m] < th (j + m))
  | [], j => by refine ⟨Nat.le_refl _, Nat.le_refl _, ?_, ?_⟩ <;> (intro m h; simp at h)
  | p :: r, j => by
    unfold hJ
    by_cases h : v p < th j
    · rw [if_pos h]
      refine ⟨Nat.le_refl _, by omega, fun m hm h1 => by omega, fun m hm h1 => ?_⟩
      obtain rfl : m = 0 := by omega
      simpa using h
    · rw [if_neg h]
      obtain ⟨a1, a2, a3, a4⟩ := hJ_facts v th r (j + 1)
      refine ⟨by omega, by simp only [List.length_cons]; omega, fun m hm h1 => ?_, fun m hm h1 => ?_⟩
      · cases m with
        | zero => simpa using Rat.not_lt.1 h
        | succ m => have := a3 m (by simpa using hm) (by omega); rw [show j + (m + 1) = j + 1 + m by omega]; simpa using this
      · cases m with
        | zero => omega
        | succ m => have := a4 m (by simpa using hm) (by omega); rw [show j + (m + 1) = j + 1 + m by omega]; simpa using this
def cgt (v : Nat → Rat) (n : Nat) (x : Rat) : Nat := (List.range n).countP (fun m => decide (x < v m))
def cge (v : Nat → Rat) (n : Nat) (x : Rat) : Nat := (List.range n).countP (fun m => decide (x ≤ v m))
theorem Rk.len {v : Nat → Rat} {n : Nat} {P : List Nat} (h : Rk v n P) : P.length = n := by rw [h.1.length_eq, List.length_range]
theorem Rk.mem {v : Nat → Rat} {n : Nat} {P : List Nat} (h : Rk v n P) {k : Nat} : k ∈ P ↔ k < n := by rw [h.1.mem_iff, List.mem_range]
theorem Rk.at {v : Nat → Rat} {n : Nat} {P : List Nat} (h : Rk v n P) {k : Nat} (hk : k < n) : ∃ b, ∃ hb : b < P.length, P[b] = k := List.getElem_of_mem (h.mem.2 hk)
theorem Rk.sorted {v : Nat → Rat} {n : Nat} {P : List Nat} (h : Rk v n P) {a b : Nat} (ha : a < P.length) (hb : b < P.length) (hab : a ≤ b) : v P[b] ≤ v P[a] := by
  by_cases e : a = b
  · subst e; exact Rat.le_refl
  · exact List.pairwise_iff_getElem.1 h.2 a b ha hb (by omega)
theorem Rk.gt {v : Nat → Rat} {n : Nat} {P : List Nat} (h : Rk v n P) (x : Rat) {m : Nat} (hm : m < P.length) : m < cgt v n x ↔ x < v P[m] := by
  have hp : P.Pairwise (fun a b => decide (x < v b) = true → decide (x < v a) = true) := h.2.imp fun {a b} hab hb => by
    rw [decide_eq_true_iff] at hb ⊢
    exact Std.lt_of_lt_of_le hb hab
  have := thr (fun m => decide (x < v m)) P hp m hm
  unfold cgt
  rw [← h.1.countP_eq, this, decide_eq_true_iff]
theorem Rk.ge {v : Nat → Rat} {n : Nat} {P : List Nat} (h : Rk v n P) (x : Rat) {m : Nat} (hm : m < P.length) : m < cge v n x ↔ x ≤ v P[m] := by
  have hp : P.Pairwise (fun a b => decide (x ≤ v b) = true → decide (x ≤ v a) = true) := h.2.imp fun {a b} hab hb => by
    rw [decide_eq_true_iff] at hb ⊢
    exact Std.le_trans hb hab
  have := thr (fun m => decide (x ≤ v m)) P hp m hm
  unfold cge
  rw [← h.1.countP_eq, this, decide_eq_true_iff]
theorem mem_take_at {P : List Nat} (hn : P.Nodup) {a J : Nat} (ha : a < P.length) : P[a] ∈ P.take J ↔ a < J := by
  constructor
  · intro h
    obtain ⟨b, hb, e⟩ := List.getElem_of_mem h
    rw [List.getElem_take] at e
    have hb' : b < P.length := by rw [List.length_take] at hb; omega
    have hbJ : b < J := by rw [List.length_take] at hb; omega
    have := (List.getElem_inj (h₀ := hb') (h₁ := ha) hn).1 e
    omega
  · intro h
    rw [List.mem_take_iff_getElem]
    exact ⟨a, by omega, rfl⟩
theorem Rk.nodup {v : Nat → Rat} {n : Nat} {P : List Nat} (h : Rk v n P) : P.Nodup := h.1.nodup_iff.2 List.nodup_range
/-- what the rule of Holm decides -/
def HolmD (v th : Nat → Rat) (n i : Nat) : Prop := ∀ k, k < n → v i ≤ v k → th (cgt v n (v k)) ≤ v k
/-- what the share decides -/
def ShareD (v : Nat → Rat) (D : Rat) (n i : Nat) : Prop := ∃ k, k < n ∧ v k ≤ v i ∧ D ≤ v k * (cge v n (v k) : Rat)
theorem holm_mem {v th : Nat → Rat} {n : Nat} {P : List Nat} (h : Rk v n P) (ht : ∀ c j, c ≤ j → j < n → th j ≤ th c) {i : Nat} (hi : i < n) : i ∈ P.take (hJ v th P 0) ↔ HolmD v th n i := by
  obtain ⟨_, h2, h3, h4⟩ := hJ_facts v th P 0
  obtain ⟨a, ha, rfl⟩ := h.at hi
  have hl := h.len
  rw [mem_take_at h.nodup ha]
  generalize hJ v th P 0 = J at *
  constructor
  · intro haJ k hk hik
    obtain ⟨b, hb, rfl⟩ := h.at hk
    have e1 : cgt v n (v P[b]) ≤ b := by
      by_cases hh : b < cgt v n (v P[b])
      · exact absurd ((h.gt (v P[b]) hb).1 hh) Rat.lt_irrefl
      · omega
    obtain ⟨j0, hj0⟩ : ∃ j0, cgt v n (v P[b]) = j0 := ⟨_, rfl⟩
    rw [hj0] at e1 ⊢
    have hj : j0 < P.length := by omega
    have e2 : v P[b] ≤ v P[j0] := h.sorted hj hb e1
    have e3 : j0 ≤ a := by
      by_cases hh : a < j0
      · rw [← hj0] at hh
        have := (h.gt (v P[b]) ha).1 hh
        exact absurd (Std.lt_of_lt_of_le this hik) Rat.lt_irrefl
      · omega
    have e4 : ¬ (v P[b] < v P[j0]) := fun hh => by
      have := (h.gt (v P[b]) hj).2 hh
      omega
    have e5 := h3 j0 hj (by omega)
    rw [Nat.zero_add] at e5
    have e6 : v P[j0] ≤ v P[b] := Rat.not_lt.1 e4
    exact Std.le_trans e5 e6
  · intro hd
    by_cases haJ : a < J
    · exact haJ
    · exfalso
      have hJ : J < P.length := by omega
      have e1 := h4 J hJ (by omega)
      rw [Nat.zero_add] at e1
      have e2 := hd P[J] (h.mem.1 (List.getElem_mem _)) (h.sorted hJ ha (by omega))
      have e3 : cgt v n (v P[J]) ≤ J := by
        by_cases hh : J < cgt v n (v P[J])
        · exact absurd ((h.gt (v P[J]) hJ).1 hh) Rat.lt_irrefl
        · omega
      have e4 := ht _ _ e3 (by omega)
      exact absurd (Std.lt_of_lt_of_le e1 (Std.le_trans e4 e2)) Rat.lt_irrefl
/-- how many are decided as a share -/
def shN (v : Nat → Rat) (D : Rat) : List Nat → Nat → Nat → Nat
  | [], _, N => N
  | p :: r, j, N => shN v D r (j + 1) (if D ≤ v p * ((j + 1 : Nat) : Rat) then j + 1 else N)
theorem shN_facts (v : Nat → Rat) (D : Rat) : ∀ (P : List Nat) (j N : Nat), N ≤ j → N ≤ shN v D P j N ∧ shN v D P j N ≤ j + P.length ∧ (shN v D P j N = N ∨ ∃ m, ∃ h : m < P.length, shN v D P j N = j + m + 1 ∧ D ≤ v P[m] * ((j + m + 1 : Nat) : Rat)) ∧ (∀ m (h : m < P.length), D ≤ v P[m] * ((j + m + 1 : Nat) : Rat) → j + m + 1 ≤ shN v D P j N)
  | [], j, N, h => ⟨Nat.le_refl _, by simpa [shN] using h, .inl rfl, fun m h => by simp at h⟩
  | p :: r, j, N, h => by
    unfold shN
    by_cases hd : D ≤ v p * ((j + 1 : Nat) : Rat)
    · rw [if_pos hd]
      obtain ⟨a1, a2, a3, a4⟩ := shN_facts v D r (j + 1) (j + 1) (Nat.le_refl _)
      refine ⟨by omega, by simp only [List.length_cons]; omega, ?_, ?_⟩
      · right
        rcases a3 with e | ⟨m, hm, e1, e2⟩
        · exact ⟨0, by simp, by rw [e], by simpa using hd⟩
        · refine ⟨m + 1, by simpa using hm, by omega, ?_⟩
          rw [show j + (m + 1) + 1 = j + 1 + m + 1 by omega]
          simpa using e2
      · intro m hm h1
        cases m with
        | zero => omega
        | succ m =>
          have := a4 m (by simpa using hm) (by rw [show j + 1 + m + 1 = j + (m + 1) + 1 by omega]; simpa using h1)
          omega
    · rw [if_neg hd]
      obtain ⟨a1, a2, a3, a4⟩ := shN_facts v D r (j + 1) N (by omega)
      refine ⟨by omega, by simp only [List.length_cons]; omega, ?_, ?_⟩
      · rcases a3 with e | ⟨m, hm, e1, e2⟩
        · exact .inl e
        · right
          refine ⟨m + 1, by simpa using hm, by omega, ?_⟩
          rw [show j + (m + 1) + 1 = j + 1 + m + 1 by omega]
          simpa using e2
      · intro m hm h1
        cases m with
        | zero => exact absurd (by simpa using h1) hd
        | succ m =>
          have := a4 m (by simpa using hm) (by rw [show j + 1 + m + 1 = j + (m + 1) + 1 by omega]; simpa using h1)
          omega
theorem cast_le {a b : Nat} (h : a ≤ b) : (a : Rat) ≤ (b : Rat) := Rat.natCast_le_natCast.2 h
theorem share_mem {v : Nat → Rat} {D : Rat} {n : Nat} {P : List Nat} (h : Rk v n P) (h0 : ∀ k, k < n → 0 ≤ v k) {i : Nat} (hi : i < n) : i ∈ P.take (shN v D P 0 0) ↔ ShareD v D n i := by
  obtain ⟨_, h2, h3, h4⟩ := shN_facts v D P 0 0 (Nat.le_refl _)
  obtain ⟨a, ha, rfl⟩ := h.at hi
  have hl := h.len
  rw [mem_take_at h.nodup ha]
  generalize shN v D P 0 0 = N at *
  constructor
  · intro haN
    rcases h3 with e | ⟨m, hm, e1, e2⟩
    · omega
    · refine ⟨P[m], h.mem.1 (List.getElem_mem _), h.sorted ha hm (by omega), ?_⟩
      rw [Nat.zero_add] at e2
      have e3 : m < cge v n (v P[m]) := (h.ge (v P[m]) hm).2 Rat.le_refl
      exact Std.le_trans e2 (Rat.mul_le_mul_of_nonneg_left (cast_le (by omega)) (h0 _ (h.mem.1 (List.getElem_mem _))))
  · intro ⟨k, hk, hki, hd⟩
    obtain ⟨b, hb, rfl⟩ := h.at hk
    obtain ⟨c, hc⟩ : ∃ c, cge v n (v P[b]) = c := ⟨_, rfl⟩
    have e1 : b < c := by rw [← hc]; exact (h.ge (v P[b]) hb).2 Rat.le_refl
    have e2 : a < c := by rw [← hc]; exact (h.ge (v P[b]) ha).2 hki
    have e3 : c ≤ n := by rw [← hc]; unfold cge; exact Nat.le_trans List.countP_le_length (by rw [List.length_range]; exact Nat.le_refl _)
    rw [hc] at hd
    obtain ⟨j, rfl⟩ : ∃ j, c = j + 1 := ⟨c - 1, by omega⟩
    have hj : j < P.length := by omega
    have e4 : v P[b] ≤ v P[j] := (h.ge (v P[b]) hj).1 (by omega)
    have e5 := h4 j hj (by rw [Nat.zero_add]; exact Std.le_trans hd (Rat.mul_le_mul_of_nonneg_right e4 (cast_le (Nat.zero_le _))))
    omega
end Nm
end Go.Proofs.YtgfhbnbmpbhpfaaGreatDoor
namespace Go.Proofs.YtgfhbnbmpbhpfaaGreatDoor
open Go.RowKit
namespace Nm
/-- the order of numbers by their values, the greatest first -/
def cmpV (v : Nat → Rat) (x y : Nat) : Int := cmpQ (v y) (v x)
theorem cmpV_lt {v : Nat → Rat} {x y : Nat} : ltOf (cmpV v) x y = true ↔ v y < v x := by
  unfold ltOf cmpV
  rw [decide_eq_true_eq, cmpQ_neg]
theorem cmpV_ge {v : Nat → Rat} {x y : Nat} : ltOf (cmpV v) x y = false ↔ v x ≤ v y := by
  rw [← Bool.not_eq_true, cmpV_lt, Rat.not_lt]
theorem cmpV_swo (v : Nat → Rat) : Go.Sort.SWO (ltOf (cmpV v)) where
  irrefl _x := cmpV_ge.2 (Std.le_refl _)
  trans _x _y _z h k := cmpV_lt.2 (Std.lt_trans (cmpV_lt.1 k) (cmpV_lt.1 h))
  ntrans _x _y _z h k := cmpV_ge.2 (Std.le_trans (cmpV_ge.1 h) (cmpV_ge.1 k))
def rankP (v : Nat → Rat) (n : Nat) : List Nat := (Go.Sort.insertionSort (ltOf (cmpV v)) (Array.range n) 0 n).toList
theorem rankP_rk (v : Nat → Rat) (n : Nat) : Rk v n (rankP v n) := by
  have hz : (Array.range n).size = n := by simp
  obtain ⟨hp, hs⟩ := Go.Sort.insertionSort_holds (lt := ltOf (cmpV v)) (cmpV_swo v) (Array.range n) 0 n (Nat.zero_le _) (by omega)
  obtain ⟨h1, _, h3⟩ := hp
  have hz' : (Go.Sort.insertionSort (ltOf (cmpV v)) (Array.range n) 0 n).size = n := by rw [h1, hz]
  refine ⟨?_, ?_⟩
  · unfold rankP
    have e1 : (Go.Sort.insertionSort (ltOf (cmpV v)) (Array.range n) 0 n).extract 0 n = Go.Sort.insertionSort (ltOf (cmpV v)) (Array.range n) 0 n := by
      rw [Array.extract_eq_self_of_le]; omega
    have e2 : (Array.range n).extract 0 n = Array.range n := by rw [Array.extract_eq_self_of_le]; omega
    rw [e1, e2] at h3
    simpa using h3
  · unfold rankP
    rw [List.pairwise_iff_getElem]
    intro i j hi hj hij
    have hi' : i < n := by simpa [hz'] using hi
    have hj' : j < n := by simpa [hz'] using hj
    have := hs i j (Nat.zero_le _) hij hj'
    rw [getElem!_pos _ i (by omega), getElem!_pos _ j (by omega)] at this
    have := cmpV_ge.1 this
    simpa using this
end Nm
end Go.Proofs.YtgfhbnbmpbhpfaaGreatDoor
namespace Go.Proofs.YtgfhbnbmpbhpfaaGreatDoor
open Go.RowKit
variable {α β : Type}
/-- The map that block b is, as a list of pairs. -/
def MapIs (kv : α → Value) (vv : β → Value) (w : World) (b : Nat) (l : List (α × β)) : Prop :=
  ∃ (es : Array MapEntry) (clock : Nat), w.heap[b]? = some (.map es clock) ∧ es.toList.map (·.key) = l.map (fun p => kv p.1) ∧ es.toList.map (·.val) = l.map (fun p => vv p.2) ∧ (∀ e ∈ es.toList, e.born < clock) ∧ es.toList.Pairwise (fun a b => a.born ≠ b.born)
theorem MapIs.made (kv : α → Value) (vv : β → Value) (w : World) : MapIs kv vv (w.alloc (.map #[] 0)) w.heap.size [] :=
  ⟨#[], 0, by show (w.heap.push (.map #[] 0))[w.heap.size]? = _; simp, rfl, rfl, by simp, by simp⟩
theorem MapIs.lt {kv : α → Value} {vv : β → Value} {w : World} {b : Nat} {l : List (α × β)} (h : MapIs kv vv w b l) : b < w.heap.size := by
  obtain ⟨_, _, h1, _⟩ := h; exact (Array.getElem?_eq_some_iff.1 h1).1
theorem MapIs.ext {kv : α → Value} {vv : β → Value} {w w' : World} {b : Nat} {l : List (α × β)} (h : MapIs kv vv w b l) (hb : Below w.heap.size w w') : MapIs kv vv w' b l := by
  have hlt := h.lt
  obtain ⟨es, clock, h1, h2⟩ := h
  exact ⟨es, clock, (hb.block b hlt).trans h1, h2⟩
theorem MapIs.below {kv : α → Value} {vv : β → Value} {w w' : World} {b B : Nat} {l : List (α × β)} (h : MapIs kv vv w b l) (hb : Below B w w') (hB : b < B) : MapIs kv vv w' b l := by
  obtain ⟨es, clock, h1, h2⟩ := h
  exact ⟨es, clock, (hb.block b hB).trans h1, h2⟩
/-- another block than the one that grew -/
theorem MapIs.grown {kv : α → Value} {vv : β → Value} {w w' : World} {b : Nat} {l : List (α × β)} {row : Option Nat} (h : MapIs kv vv w b l) (hg : w.grownBy w' row) (hr : row ≠ some b) : MapIs kv vv w' b l := by
  have hlt := h.lt
  obtain ⟨es, clock, h1, h2⟩ := h
  exact ⟨es, clock, (hg.block b hlt (fun e => hr e.symm)).trans h1, h2⟩
theorem turned_cell {w w' : World} {b : Nat} (h : w.mapTurned w' b) (a : Addr) : w'.cell? a = w.cell? a := by
  obtain ⟨es, clock, es', clock', h1, rfl⟩ := h
  simp only [World.cell?, ChangeMaps.setBlock, Array.getElem?_setIfInBounds]
  by_cases hb : b = a.block
  · subst hb
    have hlt := (Array.getElem?_eq_some_iff.1 h1).1
    simp only [if_true, hlt, h1]
  · rw [if_neg hb]
theorem turned_size {w w' : World} {b : Nat} (h : w.mapTurned w' b) : w'.heap.size = w.heap.size := by
  obtain ⟨es, clock, es', clock', h1, rfl⟩ := h
  simp [ChangeMaps.setBlock]
/-- below B every cell reads as it did -/
def CellsKept (B : Nat) (w w' : World) : Prop := w.heap.size ≤ w'.heap.size ∧ ∀ b o, b < B → w'.cell? ⟨b, o, none⟩ = w.cell? ⟨b, o, none⟩
theorem CellsKept.refl (B : Nat) (w : World) : CellsKept B w w := ⟨Nat.le_refl _, fun _ _ _ => rfl⟩
theorem CellsKept.below {B : Nat} {w w1 w2 : World} (h : CellsKept B w w1) (hb : Below B w1 w2) : CellsKept B w w2 :=
  ⟨Nat.le_trans h.1 hb.size, fun b o hB => (hb.cell (p := ⟨b, o, none⟩) hB).trans (h.2 b o hB)⟩
theorem CellsKept.ext {B : Nat} {w w1 w2 : World} (h : CellsKept B w w1) (hB : B ≤ w.heap.size) (hb : Below w1.heap.size w1 w2) : CellsKept B w w2 := h.below (hb.mono (Nat.le_trans hB h.1))
theorem CellsKept.turned {B b : Nat} {w w1 w2 : World} (h : CellsKept B w w1) (ht : w1.mapTurned w2 b) : CellsKept B w w2 :=
  ⟨by rw [turned_size ht]; exact h.1, fun b o hB => (turned_cell ht _).trans (h.2 b o hB)⟩
theorem CellsKept.sl {w w' : World} {v : Value} {n : Nat} {cs : List Value} (h : CellsKept w.heap.size w w') (s : Sl w v n cs) : Sl w' v n cs := by
  obtain ⟨a, cap, hv, h1, h2, h0, h3⟩ := s
  refine ⟨a, cap, hv, h1, h2, h0, fun i x hx => ?_⟩
  obtain ⟨b, o, ha, hc⟩ := h3 i x hx
  exact ⟨b, o, ha, (h.2 b (o + i) (World.block_lt_of_cell? w _ hc)).trans hc⟩
end Go.Proofs.YtgfhbnbmpbhpfaaGreatDoor
