/- How the arguments of a law, read as data, lie in memory: slices of whatever elements, field by field. Ratios, tests and trials that are read as data. Comparisons of Go's library: cmp.Compare at ints and strings, strings.Compare, cmp.Or at two ints. What a region that draws its order holds on to, where it ends in a store into a block of the call's own. No program stands in it. Plain: subjects by time and key, stably sorted; trials made of them. No program stands in it. Rows: blocks of which all cells are known; a whole row read, and written. No program stands in it. -/
import Derived.Test.YtemenlcigengeaaGreatDoorTq00
import Derived.ChangeArms
import Derived.DataReads
import Derived.SizedLaws
import Derived.Test.YtemenlcigengeaaGreatDoorProg
import Derived.Lib.Bytealg
import Derived.Test.YtemenlcigengeaaGreatDoorTq02
import Derived.Deep.RegionHeld3
import Derived.Test.YtemenlcigengeaaGreatDoorTq03
import Derived.Deep.WholeRow
import Derived.Laws.CopyOwn
namespace Go.Proofs.YtemenlcigengeaaGreatDoor
open Go.RowKit

theorem i64ok_of {n : Int} (h : (Lit.int .i64 n).wf = true) : i64ok n := by
  simpa [Lit.wf, IntKind.min, IntKind.max, IntKind.signed, IntKind.bits, i64ok] using h
end Go.Proofs.YtemenlcigengeaaGreatDoor
namespace Go.Proofs.YtemenlcigengeaaGreatDoor
open Go.RowKit
theorem read_Test {H : Type} {enc : TypeId × Value → H} {W : World} {spare : Nat → Bool} {held : Bool} (fuel : Nat) (cs : List Value) (x : DataW H × List MemPlace) (h : DataW.trod enc Tryz.prog W 0 spare held fuel 25 cs = some x) :
    ∃ (x0 : Int) (x1 : Int) (x2 : ByteArray) (x3 : ByteArray), cs = [.int .i64 x0, .int .i64 x1, .string x2, .string x3] ∧ i64ok x0 ∧ i64ok x1 ∧ x2.size ≤ maxLen ∧ x3.size ≤ maxLen := by
  obtain ⟨xs, n, rfl, _, hlen, hxl, hf⟩ := DataW.trod_struct Tryz.underlying25 h
  rw [show Tryz.prog.cellsOf 25 = 4 by kernel_rfl] at hlen
  obtain ⟨c0, r0, rfl, l0⟩ := uncons hlen
  obtain ⟨c1, r1, rfl, l1⟩ := uncons l0
  obtain ⟨c2, r2, rfl, l2⟩ := uncons l1
  obtain ⟨c3, r3, rfl, l3⟩ := uncons l2
  obtain rfl := List.length_eq_zero_iff.1 l3
  have hx : ∀ i, i < 3 → ∃ y, xs[i]? = some y := fun i hi => ⟨_, List.getElem?_eq_getElem (by rw [hxl]; exact hi)⟩
  have f0 : DataW.trod enc Tryz.prog W 0 spare held n 3 (List.take (Tryz.prog.cellsOf 3) (List.drop 0 [c0, c1, c2, c3])) = xs[0]? := hf 0 _ rfl
  rw [show Tryz.prog.cellsOf 3 = 1 by kernel_rfl] at f0
  simp only [List.drop, List.take] at f0
  obtain ⟨y0, e0⟩ := hx 0 (by omega)
  rw [e0] at f0
  obtain ⟨x0, h0, _, w0⟩ := DataW.trod_int Tryz.underlying3 f0
  have f1 : DataW.trod enc Tryz.prog W 0 spare held n 3 (List.take (Tryz.prog.cellsOf 3) (List.drop 1 [c0, c1, c2, c3])) = xs[1]? := hf 1 _ rfl
  rw [show Tryz.prog.cellsOf 3 = 1 by kernel_rfl] at f1
  simp only [List.drop, List.take] at f1
  obtain ⟨y1, e1⟩ := hx 1 (by omega)
  rw [e1] at f1
  obtain ⟨x1, h1, _, w1⟩ := DataW.trod_int Tryz.underlying3 f1
  have f2 : DataW.trod enc Tryz.prog W 0 spare held n 23 (List.take (Tryz.prog.cellsOf 23) (List.drop 2 [c0, c1, c2, c3])) = xs[2]? := hf 2 _ rfl
  rw [show Tryz.prog.cellsOf 23 = 2 by kernel_rfl] at f2
  simp only [List.drop, List.take] at f2
  obtain ⟨y2, e2⟩ := hx 2 (by omega)
  rw [e2] at f2
  obtain ⟨x2, x3, h2, w2, w3⟩ := read_Ratio _ _ _ f2
  cases h0
  cases h1
  cases h2
  exact ⟨x0, x1, x2, x3, rfl, i64ok_of w0, i64ok_of w1, w2, w3⟩
theorem read_Trial {H : Type} {enc : TypeId × Value → H} {W : World} {spare : Nat → Bool} {held : Bool} (fuel : Nat) (cs : List Value) (x : DataW H × List MemPlace) (h : DataW.trod enc Tryz.prog W 0 spare held fuel 34 cs = some x) :
    ∃ (x0 : Int) (x1 : Bool), cs = [.int .i64 x0, .bool x1] ∧ i64ok x0 := by
  obtain ⟨xs, n, rfl, _, hlen, hxl, hf⟩ := DataW.trod_struct Tryz.underlying34 h
  rw [show Tryz.prog.cellsOf 34 = 2 by kernel_rfl] at hlen
  obtain ⟨c0, r0, rfl, l0⟩ := uncons hlen
  obtain ⟨c1, r1, rfl, l1⟩ := uncons l0
  obtain rfl := List.length_eq_zero_iff.1 l1
  have hx : ∀ i, i < 2 → ∃ y, xs[i]? = some y := fun i hi => ⟨_, List.getElem?_eq_getElem (by rw [hxl]; exact hi)⟩
  have f0 : DataW.trod enc Tryz.prog W 0 spare held n 3 (List.take (Tryz.prog.cellsOf 3) (List.drop 0 [c0, c1])) = xs[0]? := hf 0 _ rfl
  rw [show Tryz.prog.cellsOf 3 = 1 by kernel_rfl] at f0
  simp only [List.drop, List.take] at f0
  obtain ⟨y0, e0⟩ := hx 0 (by omega)
  rw [e0] at f0
  obtain ⟨x0, h0, _, w0⟩ := DataW.trod_int Tryz.underlying3 f0
  have f1 : DataW.trod enc Tryz.prog W 0 spare held n 4 (List.take (Tryz.prog.cellsOf 4) (List.drop 1 [c0, c1])) = xs[1]? := hf 1 _ rfl
  rw [show Tryz.prog.cellsOf 4 = 1 by kernel_rfl] at f1
  simp only [List.drop, List.take] at f1
  obtain ⟨y1, e1⟩ := hx 1 (by omega)
  rw [e1] at f1
  obtain ⟨x1, h1, _⟩ := DataW.trod_bool Tryz.underlying4 f1
  cases h0
  cases h1
  exact ⟨x0, x1, rfl, i64ok_of w0⟩
end Go.Proofs.YtemenlcigengeaaGreatDoor
namespace Go.Proofs.YtemenlcigengeaaGreatDoor
open Go.RowKit

def cmpI (a b : Int) : Int := if a < b then -1 else if b < a then 1 else 0
def cmpS (a b : ByteArray) : Int := Lib.compareBytes a.data.toList b.data.toList

theorem isNaN_int (a : Int) (w : World) : Calls Tryz.prog 63 #[.int .i64 a] w fun e w' => e = .returned (.bool false) ∧ w = w' := by
  go_enter Tryz.func63, Tryz.ntmps63
  go_wp2
  go_ret
  simp

set_option maxHeartbeats 1000000 in
theorem cmp_int (a b : Int) (w : World) : Calls Tryz.prog 34 #[.int .i64 a, .int .i64 b] w fun e w' => e = .returned (.int .i64 (cmpI a b)) ∧ w = w' := by
  unfold cmpI
  by_cases h1 : a < b
  · rw [if_pos h1]
    go_enter Tryz.func34, Tryz.ntmps34
    go_wp2_with (go_at_call 63; refine (isNaN_int _ _).mono ?_; rintro e w' ⟨rfl, rfl⟩)
    go_ret
    exact ⟨rfl, rfl⟩
  · rw [if_neg h1]
    by_cases h2 : b < a
    · rw [if_pos h2]
      go_enter Tryz.func34, Tryz.ntmps34
      go_wp2_with (go_at_call 63; refine (isNaN_int _ _).mono ?_; rintro e w' ⟨rfl, rfl⟩)
      go_ret
      exact ⟨rfl, rfl⟩
    · rw [if_neg h2]
      go_enter Tryz.func34, Tryz.ntmps34
      go_wp2_with (go_at_call 63; refine (isNaN_int _ _).mono ?_; rintro e w' ⟨rfl, rfl⟩)
      go_ret
      exact ⟨rfl, rfl⟩

set_option maxRecDepth 100000 in
set_option maxHeartbeats 1000000 in
theorem compareString (a b : ByteArray) (w : World) : Calls Tryz.prog 64 #[.string a, .string b] w fun e w' => e = .returned (.int .i64 (cmpS a b)) ∧ w = w' := by
  go_enter Tryz.func64, Tryz.ntmps64
  go_wp2
  rw [run_callFunc_extern Tryz.func92 (by kernel_rfl) (by kernel_rfl) (by kernel_rfl) (e := Extern.BytealgCompare.compare) (by kernel_rfl), Lib.run_compareString]
  simp only [Result.andThen]
  rw [Oper.upon_value]
  go_wp2
  go_ret
  exact ⟨rfl, rfl⟩

set_option maxHeartbeats 1000000 in
theorem strings_Compare (a b : ByteArray) (w : World) : Calls Tryz.prog 35 #[.string a, .string b] w fun e w' => e = .returned (.int .i64 (cmpS a b)) ∧ w = w' := by
  go_enter Tryz.func35, Tryz.ntmps35
  go_wp2_with (go_at_call 64; refine (compareString _ _ _).mono ?_; rintro e w' ⟨rfl, rfl⟩)
  go_ret
  exact ⟨rfl, rfl⟩

/-- '<' on the bytes of two strings, as the model has it, by compareBytes -/
theorem less_iff : ∀ (a b : List UInt8), Op.bytesLess a b = decide (Lib.compareBytes a b < 0)
  | [], [] => by simp [Op.bytesLess, Lib.compareBytes]
  | [], _ :: _ => by simp [Op.bytesLess, Lib.compareBytes]
  | _ :: _, [] => by simp [Op.bytesLess, Lib.compareBytes]
  | x :: a, y :: b => by
    have ih := less_iff a b
    simp only [Op.bytesLess, Lib.compareBytes]
    by_cases h1 : x < y
    · simp [h1]
    · by_cases h2 : y < x
      · have : (x == y) = false := by
          rw [beq_eq_false_iff_ne]; intro e; subst e; exact h1 h2
        simp [h1, h2, this]
      · have : x = y := UInt8.le_antisymm (UInt8.not_lt.1 h2) (UInt8.not_lt.1 h1)
        subst this
        simp [h1, ih]
theorem compare_self : ∀ a : List UInt8, Lib.compareBytes a a = 0
  | [] => rfl
  | x :: a => by simp [Lib.compareBytes, UInt8.lt_irrefl, compare_self a]
theorem compare_zero : ∀ {a b : List UInt8}, Lib.compareBytes a b = 0 → a = b
  | [], [], _ => rfl
  | [], _ :: _, h => by simp [Lib.compareBytes] at h
  | _ :: _, [], h => by simp [Lib.compareBytes] at h
  | x :: a, y :: b, h => by
    simp only [Lib.compareBytes] at h
    by_cases h1 : x < y
    · simp [h1] at h
    · by_cases h2 : y < x
      · simp [h1, h2] at h
      · have : x = y := UInt8.le_antisymm (UInt8.not_lt.1 h2) (UInt8.not_lt.1 h1)
        subst this
        simp [h1] at h
        rw [compare_zero h]
theorem compare_anti : ∀ (a b : List UInt8), Lib.compareBytes b a = - Lib.compareBytes a b
  | [], [] => rfl
  | [], _ :: _ => rfl
  | _ :: _, [] => rfl
  | x :: a, y :: b => by
    have ih := compare_anti a b
    simp only [Lib.compareBytes]
    by_cases h1 : x < y
    · have h2 : ¬ y < x := fun h => UInt8.lt_irrefl _ (UInt8.lt_trans h1 h)
      simp [h1, h2]
    · by_cases h2 : y < x
      · simp [h1, h2]
      · simp [h1, h2, ih]
theorem compare_tri : ∀ (a b : List UInt8), Lib.compareBytes a b = -1 ∨ Lib.compareBytes a b = 0 ∨ Lib.compareBytes a b = 1
  | [], [] => .inr (.inl rfl)
  | [], _ :: _ => .inl rfl
  | _ :: _, [] => .inr (.inr rfl)
  | x :: a, y :: b => by
    have ih := compare_tri a b
    simp only [Lib.compareBytes]
    by_cases h1 : x < y
    · simp [h1]
    · by_cases h2 : y < x
      · simp [h1, h2]
      · simpa [h1, h2] using ih
theorem compare_trans : ∀ {a b c : List UInt8}, Lib.compareBytes a b ≤ 0 → Lib.compareBytes b c ≤ 0 → Lib.compareBytes a c ≤ 0
  | [], _, [], _, _ => by simp [Lib.compareBytes]
  | [], _, _ :: _, _, _ => by simp [Lib.compareBytes]
  | _ :: _, [], _, h, _ => by simp [Lib.compareBytes] at h
  | _ :: _, _ :: _, [], _, h => by simp [Lib.compareBytes] at h
  | x :: a, y :: b, z :: c, h, k => by
    simp only [Lib.compareBytes] at h k ⊢
    by_cases h1 : x < y
    · by_cases k1 : y < z
      · simp [UInt8.lt_trans h1 k1]
      · by_cases k2 : z < y
        · simp [k1, k2] at k
        · have : y = z := UInt8.le_antisymm (UInt8.not_lt.1 k2) (UInt8.not_lt.1 k1)
          subst this; simp [h1]
    · by_cases h2 : y < x
      · simp [h1, h2] at h
      · have : x = y := UInt8.le_antisymm (UInt8.not_lt.1 h2) (UInt8.not_lt.1 h1)
        subst this
        simp only [h1, if_false] at h
        by_cases k1 : x < z
        · simp [k1]
        · by_cases k2 : z < x
          · simp [k1, k2] at k
          · simp only [k1, k2, if_false] at k ⊢
            exact compare_trans h k

theorem cmpI_self (a : Int) : cmpI a a = 0 := by unfold cmpI; simp
theorem cmpI_zero {a b : Int} (h : cmpI a b = 0) : a = b := by
  unfold cmpI at h
  by_cases h1 : a < b
  · simp [h1] at h
  · by_cases h2 : b < a
    · simp [h1, h2] at h
    · omega
theorem cmpI_anti (a b : Int) : cmpI b a = - cmpI a b := by unfold cmpI; split <;> split <;> simp_all <;> omega
theorem cmpI_trans {a b c : Int} (h : cmpI a b ≤ 0) (k : cmpI b c ≤ 0) : cmpI a c ≤ 0 := by
  unfold cmpI at *
  by_cases h1 : a < b <;> by_cases h2 : b < a <;> by_cases k1 : b < c <;> by_cases k2 : c < b <;> by_cases l1 : a < c <;> by_cases l2 : c < a <;> simp_all <;> omega

theorem cmpS_self (a : ByteArray) : cmpS a a = 0 := compare_self _
theorem cmpS_anti (a b : ByteArray) : cmpS b a = - cmpS a b := compare_anti _ _
theorem cmpS_tri (a b : ByteArray) : cmpS a b = -1 ∨ cmpS a b = 0 ∨ cmpS a b = 1 := compare_tri _ _
theorem cmpS_trans {a b c : ByteArray} (h : cmpS a b ≤ 0) (k : cmpS b c ≤ 0) : cmpS a c ≤ 0 := compare_trans h k


theorem cmpS_lt {a b : ByteArray} (h : Op.bytesLess a.toList b.toList = true) : cmpS a b = -1 := by
  rw [ByteArray.toList_eq, ByteArray.toList_eq, less_iff] at h
  have := cmpS_tri a b
  unfold cmpS at *
  simp at h; omega
theorem cmpS_eq {a b : ByteArray} (h : (!a.toList == b.toList) = false) : cmpS a b = 0 := by
  rw [ByteArray.toList_eq, ByteArray.toList_eq] at h
  have e : a.data.toList = b.data.toList := by simpa using h
  unfold cmpS; rw [e]; exact compare_self _
theorem cmpS_gt {a b : ByteArray} (h : Op.bytesLess a.toList b.toList = false) (k : (!a.toList == b.toList) = true) : cmpS a b = 1 := by
  rw [ByteArray.toList_eq, ByteArray.toList_eq] at h k
  rw [less_iff] at h
  have := cmpS_tri a b
  have hne : cmpS a b ≠ 0 := fun e => by
    have := compare_zero e
    rw [this] at k; simp at k
  unfold cmpS at *
  simp at h; omega

/-- cmp.Or at two ints: the first that is not 0 -/
def orI (a b : Int) : Int := if a = 0 then b else a
set_option maxHeartbeats 1000000 in
theorem or_two (a b : Int) (g : Nat) (w : World) (h0 : w.cell? ⟨g, 0, none⟩ = some (.int .i64 a)) (h1 : w.cell? ⟨g, 1, none⟩ = some (.int .i64 b)) : Calls Tryz.prog 33 #[.slice (some ⟨g, 0, none⟩) 2 2] w fun e w' => e = .returned (.int .i64 (orI a b)) ∧ w = w' := by
  unfold orI
  by_cases ha : a = 0
  · subst ha
    by_cases hb : b = 0
    · subst hb
      go_enter Tryz.func33, Tryz.ntmps33
      go_wp2
      go_rounds 3
      go_ret
      exact ⟨rfl, rfl⟩
    · have hb' : (b != 0) = true := by simp [hb]
      go_enter Tryz.func33, Tryz.ntmps33
      go_wp2
      go_rounds 3
      go_ret
      exact ⟨rfl, rfl⟩
  · have ha' : (a != 0) = true := by simp [ha]
    rw [if_neg ha]
    go_enter Tryz.func33, Tryz.ntmps33
    go_wp2
    go_rounds 3
    go_ret
    exact ⟨rfl, rfl⟩
end Go.Proofs.YtemenlcigengeaaGreatDoor
namespace Go.Proofs.YtemenlcigengeaaGreatDoor
open Go.RowKit
/-- append of something new at a step of a region that draws its order. -/
theorem step_append_new {P : Program} {w : World} {ops : Array Oper} {o : Oper} {a : Act} {K : Act → World → Prop} {Q : Exit → Act → World → Prop} {E : Prop} (hgd : o.guard = none) (s x : Operand) (t : TypeId)
    (ho : o.op = .call { callee := .builtin .append, args := #[s, x], argTypes := #[t, t] })
    (base : Nat) (e : TypeId) {z : Value} {size bytes : Nat} (ht : P.underlying t = some (.slice e)) (hinfo : (P.info? e).map (fun i => (i.zero, i.size, i.bytes)) = some (some z, size, bytes))
    (hzs : z.cells.size = size) (hsz : 0 < size)
    {v : Value} {n : Nat} {xs : List Value} (hs : a.eval s = v) (hown : w.ownsRow base e size v n xs)
    {ad : Addr} {m c : Nat} {news : List Value} (hx : a.eval x = .slice (some ad) m c) (hsl : Sl w (.slice (some ad) m c) m news) (hl : news.length = m * size) (h1 : ∀ u ∈ news, u.oneCell' = true)
    (h63 : n + m ≤ maxLen) (hbytes : (n + m) * bytes ≤ 140737488355328) (hbase : base ≤ w.heap.size)
    (h : ∀ v' w', w'.ownsRow base e size v' (n + m) (xs ++ news) → w.grownBy w' v.ownBlock → K (a.put o.dst v') w') :
    if Region.wanted o (yielded ops a.tmps) = true then Oper.wp P o a w K Q else E := by
  have hw : Region.wanted o (yielded ops a.tmps) = true := by simp [Region.wanted, hgd]
  rw [if_pos hw]
  obtain ⟨i, hi, hz0, hz1, hz2⟩ := info_parts hinfo
  rcases hsl.src with ⟨h0, _⟩ | ⟨ad', c', e', hnews⟩
  · cases h0
  · cases e'
    exact wp_append_own w s x t ho base e i z size bytes ht hi hz0 hz1 hz2 hzs hsz v n xs hs hown ad m c news hx hl hnews h1 h63 hbytes hbase (fun v' w' h2 h3 _ => h v' w' h2 h3)
end Go.Proofs.YtemenlcigengeaaGreatDoor
namespace Go.Proofs.YtemenlcigengeaaGreatDoor
namespace Tr
/-- a subject -/
structure Sbj where
  key : ByteArray
  time : Int
  arm : Int
  count : Int
  sum : Int
  early : Int
  earlySum : Int
  closed : Bool
abbrev sbC (s : Sbj) : Array Value := #[.string s.key, .int .i64 s.time, .int .i64 s.arm, .int .i64 s.count, .int .i64 s.sum, .int .i64 s.early, .int .i64 s.earlySum, .bool s.closed]
def sbL (s : Sbj) : List Value := (sbC s).toList
theorem sbL_len (s : Sbj) : (sbL s).length = 8 := rfl
theorem sbL_one (s : Sbj) : ∀ v ∈ sbL s, v.oneCell' = true := by
  intro v hv
  simp only [sbL, List.mem_cons, List.not_mem_nil, or_false] at hv
  rcases hv with rfl | rfl | rfl | rfl | rfl | rfl | rfl | rfl <;> rfl
instance : Inhabited Sbj := ⟨⟨⟨#[]⟩, 0, 0, 0, 0, 0, 0, false⟩⟩
/-- by time, then by key -/
def cmpT (a b : Sbj) : Int := orI (cmpI a.time b.time) (cmpS a.key b.key)
/-- does its arm count, and is it closed? -/
def keepB (z o : Int) (s : Sbj) : Bool := s.closed && (decide (s.arm = z) || decide (s.arm = o))
def trial (o : Int) (s : Sbj) : Tri := ⟨if s.arm = o then 1 else 0, decide (0 < s.count)⟩
/-- what is wrong with the arguments -/
def trlF (n : Nat) (z o : Int) : Int := if 20000 < n then 2 else if z < 0 ∨ 19 < z ∨ o < 0 ∨ 19 < o then 1 else if z = o then 13 else 0
theorem cmpT_self (a : Sbj) : cmpT a a = 0 := by unfold cmpT orI; rw [cmpI_self, cmpS_self]; rfl
theorem cmpT_anti (a b : Sbj) : cmpT b a = - cmpT a b := by
  unfold cmpT orI; rw [cmpI_anti a.time b.time, cmpS_anti a.key b.key]
  by_cases h : cmpI a.time b.time = 0
  · simp [h]
  · rw [if_neg (by omega), if_neg h]
theorem cmpT_trans {a b c : Sbj} (h : cmpT a b ≤ 0) (k : cmpT b c ≤ 0) : cmpT a c ≤ 0 := by
  unfold cmpT orI at *
  by_cases h1 : cmpI a.time b.time = 0
  · have e := cmpI_zero h1
    simp only [h1, if_true] at h
    rw [e]
    by_cases h2 : cmpI b.time c.time = 0
    · simp only [h2, if_true] at k ⊢; exact cmpS_trans h k
    · simp only [h2, if_false] at k ⊢; exact k
  · simp only [h1, if_false] at h
    by_cases h2 : cmpI b.time c.time = 0
    · have e := cmpI_zero h2
      rw [← e]; simp only [h1, if_false]; exact h
    · simp only [h2, if_false] at k
      have h3 := cmpI_trans h k
      by_cases h4 : cmpI a.time c.time = 0
      · have e := cmpI_zero h4
        rw [← e, cmpI_anti a.time b.time] at k; omega
      · rw [if_neg h4]; exact h3
theorem cmpT_ltt {a b c : Sbj} (h : cmpT a b < 0) (k : cmpT b c < 0) : cmpT a c < 0 := by
  have h1 : cmpT a c ≤ 0 := @cmpT_trans a b c (by omega) (by omega)
  rcases Int.lt_or_eq_of_le h1 with h2 | h2
  · exact h2
  · have h3 : cmpT c a = 0 := by rw [cmpT_anti, h2]; rfl
    have h4 : cmpT c b ≤ 0 := @cmpT_trans c a b (by omega) (by omega)
    rw [cmpT_anti] at h4; omega
theorem cmpT_le_lt {a b c : Sbj} (h : cmpT a b ≤ 0) (k : cmpT b c < 0) : cmpT a c < 0 := by
  have h1 : cmpT a c ≤ 0 := @cmpT_trans a b c h (by omega)
  rcases Int.lt_or_eq_of_le h1 with h2 | h2
  · exact h2
  · have h3 : cmpT c a = 0 := by rw [cmpT_anti, h2]; rfl
    have h4 : cmpT c b ≤ 0 := @cmpT_trans c a b (by omega) h
    rw [cmpT_anti] at h4; omega
theorem cmpT_lt_le {a b c : Sbj} (h : cmpT a b < 0) (k : cmpT b c ≤ 0) : cmpT a c < 0 := by
  have h1 : cmpT a c ≤ 0 := @cmpT_trans a b c (by omega) k
  rcases Int.lt_or_eq_of_le h1 with h2 | h2
  · exact h2
  · have h3 : cmpT c a = 0 := by rw [cmpT_anti, h2]; rfl
    have h4 : cmpT b a ≤ 0 := @cmpT_trans b c a k (by omega)
    rw [cmpT_anti] at h4; omega
/-- are they at one place of the order? -/
def eqv (x a : Sbj) : Bool := decide (cmpT x a = 0)
theorem eqv_symm {x a : Sbj} (h : eqv x a = true) : eqv a x = true := by
  simp only [eqv, decide_eq_true_eq] at *; rw [cmpT_anti, h]; rfl
theorem eqv_trans {x a b : Sbj} (h : eqv x a = true) (k : eqv a b = true) : eqv x b = true := by
  simp only [eqv, decide_eq_true_eq] at *
  have h1 := @cmpT_trans x a b (by omega) (by omega)
  have h2 := @cmpT_trans b a x (by rw [cmpT_anti, k]; decide) (by rw [cmpT_anti, h]; decide)
  rw [cmpT_anti] at h2; omega
/-- R is l, sorted, and what is at one place stands as it stood in l -/
structure Stable (l R : List Sbj) : Prop where
  srt : R.Pairwise (fun a b => cmpT a b ≤ 0)
  cls : ∀ x, R.filter (eqv x) = l.filter (eqv x)
theorem Stable.nil : Stable [] [] := ⟨List.Pairwise.nil, fun _ => rfl⟩
theorem Stable.one (x : Sbj) : Stable [x] [x] := ⟨by simp, fun _ => rfl⟩
theorem Stable.filter {l R : List Sbj} (h : Stable l R) (p : Sbj → Bool) : Stable (l.filter p) (R.filter p) := by
  refine ⟨h.srt.filter p, fun x => ?_⟩
  rw [List.filter_filter, List.filter_filter]
  have e : ∀ L : List Sbj, L.filter (fun a => eqv x a && p a) = (L.filter (eqv x)).filter p := fun L => by
    rw [List.filter_filter]; congr 1; funext a; rw [Bool.and_comm]
  rw [e, e, h.cls]
theorem mem_of_cls {R S : List Sbj} (h : ∀ x, R.filter (eqv x) = S.filter (eqv x)) {a : Sbj} (ha : a ∈ R) : a ∈ S := by
  have h1 : a ∈ R.filter (eqv a) := List.mem_filter.2 ⟨ha, by simp [eqv, cmpT_self]⟩
  rw [h] at h1
  exact (List.mem_filter.1 h1).1
theorem stable_unique : ∀ {R S : List Sbj}, R.Pairwise (fun a b => cmpT a b ≤ 0) → S.Pairwise (fun a b => cmpT a b ≤ 0) → (∀ x, R.filter (eqv x) = S.filter (eqv x)) → R = S
  | [], [], _, _, _ => rfl
  | [], b :: S, _, _, h => absurd (mem_of_cls (fun x => (h x).symm) (List.mem_cons_self (a := b) (l := S))) (by simp)
  | a :: R, [], _, _, h => absurd (mem_of_cls h (List.mem_cons_self (a := a) (l := R))) (by simp)
  | a :: R, b :: S, hR, hS, h => by
    obtain ⟨r1, r2⟩ := List.pairwise_cons.1 hR
    obtain ⟨s1, s2⟩ := List.pairwise_cons.1 hS
    have hab : cmpT a b ≤ 0 := by
      rcases List.mem_cons.1 (mem_of_cls (fun x => (h x).symm) (List.mem_cons_self (a := b) (l := S))) with e | e
      · rw [e, cmpT_self]; decide
      · exact r1 b e
    have hba : cmpT b a ≤ 0 := by
      rcases List.mem_cons.1 (mem_of_cls h (List.mem_cons_self (a := a) (l := R))) with e | e
      · rw [e, cmpT_self]; decide
      · exact s1 a e
    have h0 : cmpT a b = 0 := by rw [cmpT_anti] at hba; omega
    have e1 : eqv a a = true := by simp [eqv, cmpT_self]
    have e2 : eqv a b = true := by simp [eqv, h0]
    have ha := h a
    rw [List.filter_cons_of_pos e1, List.filter_cons_of_pos e2] at ha
    obtain ⟨rfl, _⟩ := List.cons.inj ha
    congr 1
    refine stable_unique r2 s2 fun x => ?_
    have hx := h x
    by_cases e : eqv x a = true
    · rw [List.filter_cons_of_pos e, List.filter_cons_of_pos e] at hx; exact (List.cons.inj hx).2
    · rw [List.filter_cons_of_neg e, List.filter_cons_of_neg e] at hx; exact hx
theorem Stable.unique {l R S : List Sbj} (h : Stable l R) (k : Stable l S) : R = S := stable_unique h.srt k.srt fun x => (h.cls x).trans (k.cls x).symm
/-! where merging stands -/
structure Mg (l O xa xb : List Sbj) : Prop where
  cls : ∀ x, O.filter (eqv x) ++ (xa.filter (eqv x) ++ xb.filter (eqv x)) = l.filter (eqv x)
  o : O.Pairwise (fun a b => cmpT a b ≤ 0)
  a : xa.Pairwise (fun a b => cmpT a b ≤ 0)
  b : xb.Pairwise (fun a b => cmpT a b ≤ 0)
  oa : ∀ x ∈ O, ∀ y ∈ xa, cmpT x y ≤ 0
  ob : ∀ x ∈ O, ∀ y ∈ xb, cmpT x y ≤ 0
theorem Mg.start {l l1 l2 xa xb : List Sbj} (hl : l1 ++ l2 = l) (ha : Stable l1 xa) (hb : Stable l2 xb) : Mg l [] xa xb :=
  ⟨fun x => by rw [List.filter_nil, List.nil_append, ha.cls, hb.cls, ← hl, List.filter_append], List.Pairwise.nil, ha.srt, hb.srt, (fun x hx => by cases hx), (fun x hx => by cases hx)⟩
theorem filter_one (p : Sbj → Bool) (x : Sbj) (L : List Sbj) : (x :: L).filter p = [x].filter p ++ L.filter p := by
  rw [← List.filter_append]; rfl
theorem Mg.left {l O xa xb : List Sbj} {p q : Sbj} (h : Mg l O (p :: xa) (q :: xb)) (hpq : cmpT p q ≤ 0) : Mg l (O ++ [p]) xa (q :: xb) := by
  obtain ⟨a1, a2⟩ := List.pairwise_cons.1 h.a
  obtain ⟨b1, _⟩ := List.pairwise_cons.1 h.b
  refine ⟨fun x => ?_, ?_, a2, h.b, ?_, ?_⟩
  · rw [← h.cls x, filter_one _ p xa, List.filter_append]; simp only [List.append_assoc]
  · exact List.pairwise_append.2 ⟨h.o, by simp, fun x hx y hy => by simp at hy; subst hy; exact h.oa x hx y (by simp)⟩
  · intro x hx y hy
    rcases List.mem_append.1 hx with hx | hx
    · exact h.oa x hx y (by simp [hy])
    · simp at hx; subst hx; exact a1 y hy
  · intro x hx y hy
    rcases List.mem_append.1 hx with hx | hx
    · exact h.ob x hx y hy
    · simp at hx; subst hx
      rcases List.mem_cons.1 hy with rfl | hy
      · exact hpq
      · exact cmpT_trans hpq (b1 y hy)
theorem Mg.right {l O xa xb : List Sbj} {p q : Sbj} (h : Mg l O (p :: xa) (q :: xb)) (hqp : cmpT q p < 0) : Mg l (O ++ [q]) (p :: xa) xb := by
  obtain ⟨a1, _⟩ := List.pairwise_cons.1 h.a
  obtain ⟨b1, b2⟩ := List.pairwise_cons.1 h.b
  have hall : ∀ y ∈ p :: xa, cmpT q y < 0 := fun y hy => by
    rcases List.mem_cons.1 hy with rfl | hy
    · exact hqp
    · exact cmpT_lt_le hqp (a1 y hy)
  refine ⟨fun x => ?_, ?_, h.a, b2, ?_, ?_⟩
  · rw [← h.cls x, filter_one _ q xb, List.filter_append]
    by_cases e : eqv x q = true
    · have hn : (p :: xa).filter (eqv x) = [] := by
        rw [List.filter_eq_nil_iff]
        intro y hy ht
        have h1 := hall y hy
        have h2 := eqv_trans (eqv_symm e) ht
        simp only [eqv, decide_eq_true_eq] at h2
        omega
      rw [hn]; simp
    · have hn : [q].filter (eqv x) = [] := by rw [List.filter_cons_of_neg e]; rfl
      rw [hn]; simp
  · exact List.pairwise_append.2 ⟨h.o, by simp, fun x hx y hy => by simp at hy; subst hy; exact h.ob x hx y (by simp)⟩
  · intro x hx y hy
    rcases List.mem_append.1 hx with hx | hx
    · exact h.oa x hx y hy
    · simp at hx; subst hx; have := hall y hy; omega
  · intro x hx y hy
    rcases List.mem_append.1 hx with hx | hx
    · exact h.ob x hx y (by simp [hy])
    · simp at hx; subst hx; exact b1 y hy
theorem Mg.done {l O xa xb : List Sbj} (h : Mg l O xa xb) (he : xa = [] ∨ xb = []) : Stable l (O ++ xa ++ xb) := by
  refine ⟨?_, fun x => by rw [← h.cls x, List.filter_append, List.filter_append, List.append_assoc]⟩
  rcases he with rfl | rfl
  · rw [List.append_nil]; exact List.pairwise_append.2 ⟨h.o, h.b, h.ob⟩
  · rw [List.append_nil]; exact List.pairwise_append.2 ⟨h.o, h.a, h.oa⟩
/-! tags: the places at which they stood -/
abbrev TS := Sbj × Nat
instance : Inhabited TS := ⟨(default, 0)⟩
def cfT (a b : TS) : Int := cmpT a.1 b.1
def ltT (a b : TS) : Bool := decide (cmpT a.1 b.1 < 0) || (decide (cmpT a.1 b.1 = 0) && decide (a.2 < b.2))
theorem ltT_iff {a b : TS} : ltT a b = true ↔ cmpT a.1 b.1 < 0 ∨ cmpT a.1 b.1 = 0 ∧ a.2 < b.2 := by simp [ltT]
theorem ltT_not {a b : TS} : ltT a b = false ↔ cmpT b.1 a.1 < 0 ∨ cmpT b.1 a.1 = 0 ∧ b.2 ≤ a.2 := by
  rw [← Bool.not_eq_true, ltT_iff, cmpT_anti a.1 b.1]
  omega
theorem stable_of_tags {T tl : List TS} (hp : T.Perm tl) (ht : tl.Pairwise (fun a b => a.2 < b.2)) (hs : T.Pairwise (fun a b => ltT b a = false)) : Stable (tl.map Prod.fst) (T.map Prod.fst) := by
  refine ⟨?_, fun x => ?_⟩
  · rw [List.pairwise_map]
    exact hs.imp fun {a b} h => by have := ltT_not.1 h; omega
  · rw [List.filter_map, List.filter_map]
    congr 1
    have h1 : (T.filter (eqv x ∘ Prod.fst)).Perm (tl.filter (eqv x ∘ Prod.fst)) := hp.filter _
    have h2 : (tl.filter (eqv x ∘ Prod.fst)).Pairwise (fun a b => a.2 ≤ b.2) := (ht.filter _).imp fun {a b} h => Nat.le_of_lt h
    have h3 : (T.filter (eqv x ∘ Prod.fst)).Pairwise (fun a b => a.2 ≤ b.2) := by
      have h4 : (T.filter (eqv x ∘ Prod.fst)).Pairwise (fun a b => ltT b a = false) := hs.filter _
      refine List.Pairwise.imp_of_mem (fun {a b} ha hb h => ?_) h4
      have e1 := (List.mem_filter.1 ha).2
      have e2 := (List.mem_filter.1 hb).2
      have e3 := eqv_trans (eqv_symm e1) e2
      simp only [eqv, decide_eq_true_eq] at e3
      rcases ltT_not.1 h with h5 | h5 <;> omega
    have hinj : ∀ a ∈ tl, ∀ b ∈ tl, a.2 = b.2 → a = b := by
      intro a ha b hb hab
      obtain ⟨i, hi, rfl⟩ := List.getElem_of_mem ha
      obtain ⟨j, hj, rfl⟩ := List.getElem_of_mem hb
      have hpw := List.pairwise_iff_getElem.1 ht
      rcases Nat.lt_trichotomy i j with h | h | h
      · have := hpw i j hi hj h; omega
      · subst h; rfl
      · have := hpw j i hj hi h; omega
    refine List.Perm.eq_of_pairwise (fun a b ha hb h5 h6 => ?_) h3 h2 h1
    exact hinj a (hp.mem_iff.1 (List.mem_filter.1 ha).1) b ((List.mem_filter.1 hb).1) (Nat.le_antisymm h5 h6)
end Tr
end Go.Proofs.YtemenlcigengeaaGreatDoor
namespace Go.Proofs.YtemenlcigengeaaGreatDoor
open Go.RowKit
namespace Nt
/-- the block b is a row of cells A -/
def RH (w : World) (b : Nat) (A : Array Value) (t : TypeId) : Prop := w.heap[b]? = some (.cells A t (0, 0))
theorem RH.lt {w : World} {b : Nat} {A : Array Value} {t : TypeId} (h : RH w b A t) : b < w.heap.size := (Array.getElem?_eq_some_iff.1 h).1
theorem RH.ext {w w' : World} {b : Nat} {A : Array Value} {t : TypeId} (h : RH w b A t) (hb : Below w.heap.size w w') : RH w' b A t := by
  unfold RH; rw [hb.block b h.lt]; exact h
theorem RH.cell {w : World} {b : Nat} {A : Array Value} {t : TypeId} (h : RH w b A t) (j : Nat) : w.cell? ⟨b, j, none⟩ = A[j]? := cell_of_row w b j A t _ h
theorem RH.fre {w : World} {b : Nat} {A : Array Value} {t : TypeId} (h : RH w b A t) (j : Nat) : w.frozen? ⟨b, j, none⟩ = false := by
  unfold RH at h
  simp [World.frozen?, h]
theorem RH.new (w : World) (A : Array Value) (t : TypeId) : RH (w.alloc (.cells A t)) w.heap.size A t := heap_alloc_last w _
theorem RH.row {w : World} {b : Nat} {A : Array Value} {t : TypeId} (h : RH w b A t) (A' : Array Value) : RH (w.setRow b A') b A' t := setRow_heap w b A A' t _ h
theorem RH.set {w : World} {b : Nat} {A : Array Value} {t : TypeId} (h : RH w b A t) (j : Nat) (v : Value) : RH (w.setCell ⟨b, j, none⟩ v) b (A.setIfInBounds j v) t := by
  rw [setCell_eq_setRow w b j A t _ v h]; exact h.row _
theorem RH.set_other {w : World} {b : Nat} {A : Array Value} {t : TypeId} (h : RH w b A t) {p : Addr} (hne : b ≠ p.block) (v : Value) : RH (w.setCell p v) b A t := by
  unfold RH World.setCell
  simp only [Array.getElem?_modify]
  rw [if_neg (fun e => hne e.symm)]; exact h
theorem RH.other {w : World} {b : Nat} {A : Array Value} {t : TypeId} (h : RH w b A t) {p : Addr} (hne : b ≠ p.block) (v : Value) : RH (w.setCell p v) b A t := h.set_other hne v
theorem RH.box {w : World} {b : Nat} {A : Array Value} {t : TypeId} (h : RH w b A t) : Box w b A := ⟨h.lt, fun j => h.cell j⟩
end Nt
open Nt (RH RH.cell RH.other)
end Go.Proofs.YtemenlcigengeaaGreatDoor
