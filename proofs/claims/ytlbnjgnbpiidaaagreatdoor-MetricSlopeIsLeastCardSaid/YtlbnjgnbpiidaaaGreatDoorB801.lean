/- Exact numbers: plain mathematics over the core's Rat. Slices of words of 32 bits as numbers; blocks of words that the call owns. trim, XnatOf, Cmp of package value. -/
import Derived.Test.YtlbnjgnbpiidaaaGreatDoorB800
import Derived.Test.YtlbnjgnbpiidaaaGreatDoorProg
import Derived.IntWalk
import Derived.Laws.Rows
import Derived.Deep.OwnRows
import Derived.Deep.QuietTactic
import Derived.BigQuiet
namespace Go.Proofs.YtlbnjgnbpiidaaaGreatDoor
namespace Nm
def sgn (b : Bool) (n : Nat) : Int := if b then -(n : Int) else (n : Int)
theorem sgn_natAbs (b : Bool) (n : Nat) : (sgn b n).natAbs = n := by cases b <;> simp [sgn]
theorem sgn_self (z : Int) : sgn (decide (z < 0)) z.natAbs = z := by
  by_cases h : z < 0
  · simp [sgn, h]; omega
  · simp [sgn, h]; omega
theorem norm_den (b : Bool) (n d : Nat) (hd : d ≠ 0) : (Rat.normalize (sgn b n) d hd).den = d / n.gcd d := by
  rw [Rat.normalize_eq]; simp only [sgn_natAbs]
theorem norm_num (b : Bool) (n d : Nat) (hd : d ≠ 0) : (Rat.normalize (sgn b n) d hd).num = sgn b (n / n.gcd d) := by
  rw [Rat.normalize_eq]; simp only [sgn_natAbs]
  cases b
  · simp [sgn]
  · simp only [sgn, if_true]
    rw [Int.neg_ediv_of_dvd (Int.natCast_dvd_natCast.2 (Nat.gcd_dvd_left n d))]
    simp
theorem norm_abs (b : Bool) (n d : Nat) (hd : d ≠ 0) : (Rat.normalize (sgn b n) d hd).num.natAbs = n / n.gcd d := by
  rw [norm_num, sgn_natAbs]
theorem norm_neg (b : Bool) (n d : Nat) (hd : d ≠ 0) : decide ((Rat.normalize (sgn b n) d hd).num < 0) = (b && decide (0 < n / n.gcd d)) := by
  rw [norm_num]
  generalize n / n.gcd d = m
  cases b
  · simp [sgn]
  · simp [sgn]
theorem normalize_congr {a b : Int} {d : Nat} (hd hd' : d ≠ 0) (h : a = b) : Rat.normalize a d hd = Rat.normalize b d hd' := by subst h; rfl
/-- the sum by signs -/
theorem add_same {x y : Rat} (h : decide (x.num < 0) = decide (y.num < 0)) : x.num * (y.den : Int) + y.num * (x.den : Int) = sgn (decide (x.num < 0)) (x.num.natAbs * y.den + y.num.natAbs * x.den) := by
  have hx := sgn_self x.num
  have hy := sgn_self y.num
  rw [← h] at hy
  generalize decide (x.num < 0) = b at *
  conv => lhs; rw [← hx, ← hy]
  generalize x.num.natAbs = m
  generalize y.num.natAbs = n
  cases b
  · simp [sgn]
  · simp [sgn, Int.neg_mul]; omega
theorem add_less {x y : Rat} (h : decide (x.num < 0) ≠ decide (y.num < 0)) (hl : x.num.natAbs * y.den < y.num.natAbs * x.den) : x.num * (y.den : Int) + y.num * (x.den : Int) = sgn (decide (y.num < 0)) (y.num.natAbs * x.den - x.num.natAbs * y.den) := by
  have hx := sgn_self x.num
  have hy := sgn_self y.num
  have hn : decide (x.num < 0) = !decide (y.num < 0) := by revert h; cases decide (x.num < 0) <;> cases decide (y.num < 0) <;> simp
  rw [hn] at hx
  generalize decide (y.num < 0) = b at *
  conv => lhs; rw [← hx, ← hy]
  generalize x.num.natAbs = m at *
  generalize y.num.natAbs = n at *
  have hc : ((n * x.den - m * y.den : Nat) : Int) = (n : Int) * (x.den : Int) - (m : Int) * (y.den : Int) := by rw [Int.ofNat_sub (Nat.le_of_lt hl), Int.natCast_mul, Int.natCast_mul]
  cases b
  · simp only [sgn, Bool.not_false, if_true]; simp [hc, Int.neg_mul]; omega
  · simp only [sgn, Bool.not_true, if_true]; simp [hc, Int.neg_mul]; omega
theorem add_more {x y : Rat} (h : decide (x.num < 0) ≠ decide (y.num < 0)) (hl : y.num.natAbs * x.den ≤ x.num.natAbs * y.den) : x.num * (y.den : Int) + y.num * (x.den : Int) = sgn (decide (x.num < 0)) (x.num.natAbs * y.den - y.num.natAbs * x.den) := by
  have hx := sgn_self x.num
  have hy := sgn_self y.num
  have hn : decide (y.num < 0) = !decide (x.num < 0) := by revert h; cases decide (x.num < 0) <;> cases decide (y.num < 0) <;> simp
  rw [hn] at hy
  generalize decide (x.num < 0) = b at *
  conv => lhs; rw [← hx, ← hy]
  generalize x.num.natAbs = m at *
  generalize y.num.natAbs = n at *
  have hc : ((m * y.den - n * x.den : Nat) : Int) = (m : Int) * (y.den : Int) - (n : Int) * (x.den : Int) := by rw [Int.ofNat_sub hl, Int.natCast_mul, Int.natCast_mul]
  cases b
  · simp only [sgn, Bool.not_false, if_true]; simp [hc, Int.neg_mul]; omega
  · simp only [sgn, Bool.not_true, if_true]; simp [hc, Int.neg_mul]; omega
theorem more_pos {x y : Rat} (h : decide (x.num < 0) ≠ decide (y.num < 0)) (hl : y.num.natAbs * x.den ≤ x.num.natAbs * y.den) : 0 < x.num.natAbs * y.den := by
  rcases Nat.eq_zero_or_pos (x.num.natAbs * y.den) with h0 | h0
  · exfalso
    have h1 : y.num.natAbs * x.den = 0 := by omega
    have hx : x.num.natAbs = 0 := by rcases Nat.mul_eq_zero.1 h0 with h | h; exact h; exact absurd h y.den_nz
    have hy : y.num.natAbs = 0 := by rcases Nat.mul_eq_zero.1 h1 with h | h; exact h; exact absurd h x.den_nz
    apply h
    have e1 : x.num = 0 := by omega
    have e2 : y.num = 0 := by omega
    rw [e1, e2]
  · exact h0
theorem mul_sgn (x y : Rat) : x.num * y.num = sgn (decide (x.num < 0) != decide (y.num < 0)) (x.num.natAbs * y.num.natAbs) := by
  have hx := sgn_self x.num
  have hy := sgn_self y.num
  generalize decide (x.num < 0) = b at *
  generalize decide (y.num < 0) = c at *
  conv => lhs; rw [← hx, ← hy]
  generalize x.num.natAbs = m
  generalize y.num.natAbs = n
  cases b <;> cases c <;> simp [sgn, Int.neg_mul, Int.mul_neg]
theorem den_pos (x y : Rat) : x.den * y.den ≠ 0 := Nat.mul_ne_zero x.den_nz y.den_nz
theorem inv_facts {x : Rat} (h : x.num ≠ 0) : x⁻¹.num.natAbs = x.den ∧ x⁻¹.den = x.num.natAbs ∧ decide (x⁻¹.num < 0) = decide (x.num < 0) ∧ x⁻¹.num ≠ 0 := by
  have h1 := Rat.num_inv x
  have h2 := Rat.den_inv x
  have hd := x.den_nz
  refine ⟨?_, ?_, ?_, ?_⟩
  · rw [h1, Int.natAbs_mul, Int.natAbs_sign_of_ne_zero h]; simp
  · rw [h2, if_neg h]
  · rw [h1]
    rcases Int.lt_or_gt_of_ne h with h3 | h3
    · rw [Int.sign_eq_neg_one_of_neg h3]; simp [h3]; omega
    · rw [Int.sign_eq_one_of_pos h3]; simp; omega
  · rw [h1]
    rcases Int.lt_or_gt_of_ne h with h3 | h3
    · rw [Int.sign_eq_neg_one_of_neg h3]; omega
    · rw [Int.sign_eq_one_of_pos h3]; omega
end Nm
end Go.Proofs.YtlbnjgnbpiidaaaGreatDoor
namespace Go.Proofs.YtlbnjgnbpiidaaaGreatDoor
open Go.RowKit
namespace Nm
def wc (x : Nat) : Value := .int .u32 (x : Int)
def wcs (l : List Nat) : List Value := l.map wc
theorem wcs_length (l : List Nat) : (wcs l).length = l.length := by simp [wcs]
theorem wcs_get {l : List Nat} {k : Nat} (h : k < l.length) : (wcs l)[k]? = some (.int .u32 (l[k] : Int)) := by simp [wcs, wc, h]
theorem wcs_take (l : List Nat) (k : Nat) : (wcs l).take k = wcs (l.take k) := by simp [wcs, List.map_take]
theorem wcs_one (l : List Nat) : ∀ u ∈ wcs l, u.oneCell' = true := by
  intro u hu; simp only [wcs, List.mem_map] at hu; obtain ⟨c, _, rfl⟩ := hu; rfl
/-- The slice value v reads as the number n. -/
def N (w : World) (v : Value) (n : Nat) : Prop := Sl w v (wlen n) (wcs (digs n))
theorem N.ext {w w' : World} {v : Value} {n : Nat} (h : N w v n) (hb : Below w.heap.size w w') : N w' v n := Sl.ext h hb
theorem N.drew {w : World} {v : Value} {n : Nat} (h : N w v n) : N w.drew v n := h
theorem N.open_ {w : World} {v : Value} {n : Nat} (h : N w v n) : ∃ a c, v = .slice a (digs n).length c ∧ Sl w (.slice a (digs n).length c) (digs n).length (wcs (digs n)) := by
  obtain ⟨a, cap, rfl, h1⟩ := id h; exact ⟨a, cap, rfl, h⟩
theorem sl_addr {w : World} {a : Option Addr} {n c : Nat} {cs : List Value} (h : Sl w (.slice a n c) n cs) {k : Nat} {x : Value} (hk : cs[k]? = some x) : ∃ b o, a = some ⟨b, o, none⟩ ∧ w.cell? ⟨b, o + k, none⟩ = some x := by
  obtain ⟨a', cap, hv, _, _, _, h3⟩ := h
  cases hv
  exact h3 k x hk
theorem sl_caps {w : World} {a : Option Addr} {n c : Nat} {cs : List Value} (h : Sl w (.slice a n c) n cs) : n ≤ c ∧ c ≤ 9223372036854775807 := by
  obtain ⟨a', cap, hv, h1, h2, _, h3⟩ := h
  cases hv
  unfold maxLen at h2; exact ⟨h1, h2⟩
theorem sl_take {w : World} {a : Option Addr} {n c : Nat} {cs : List Value} (h : Sl w (.slice a n c) n cs) {k : Nat} (hk : k ≤ n) : Sl w (.slice a k c) k (cs.take k) := by
  obtain ⟨a', cap, hv, h1, h2, h0, h3⟩ := h
  cases hv
  refine ⟨a, c, rfl, by omega, h2, h0, fun i x hx => h3 i x ?_⟩
  rw [List.getElem?_take] at hx
  split at hx
  · exact hx
  · cases hx
/-- a call that leaves the world as it is, and returns a number -/
def TrimPost (w : World) (n : Nat) (e : Ending) (w' : World) : Prop := ∃ v, e = .returned v ∧ N w v n ∧ w = w'
/-- a call that returns a number, and makes memory -/
def NPost (w : World) (n : Nat) (e : Ending) (w' : World) : Prop := ∃ v, e = .returned v ∧ N w' v n ∧ Below w.heap.size w w'

/-- the block b is the call's own row of words, with whatever spare cells behind them -/
def Own (w : World) (b : Nat) (l : List Nat) : Prop := ∃ cur rest, w.heap[b]? = some (.cells cur 116 (0, 0)) ∧ cur.toList = wcs l ++ rest
theorem Own.lt {w : World} {b : Nat} {l : List Nat} (h : Own w b l) : b < w.heap.size := by
  obtain ⟨cur, rest, h, _⟩ := h
  rcases Nat.lt_or_ge b w.heap.size with hlt | hge
  · exact hlt
  · rw [Array.getElem?_eq_none hge] at h; cases h
theorem Own.cell {w : World} {b : Nat} {l : List Nat} (h : Own w b l) {i : Nat} (hi : i < l.length) : w.cell? ⟨b, i, none⟩ = some (.int .u32 (l[i] : Int)) := by
  obtain ⟨cur, rest, h, hc⟩ := h
  have := cell_of_row w b i _ _ (0, 0) h
  rw [this, ← Array.getElem?_toList, hc, List.getElem?_append_left (by rw [wcs_length]; exact hi), wcs_get hi]
theorem Own.frozen {w : World} {b : Nat} {l : List Nat} (h : Own w b l) (i : Nat) : w.frozen? ⟨b, i, none⟩ = false := by
  obtain ⟨cur, rest, h, hc⟩ := h; simp [World.frozen?, h]
theorem Own.set {w : World} {b : Nat} {l : List Nat} (h : Own w b l) {i : Nat} (hi : i < l.length) (x : Nat) : Own (w.setCell ⟨b, i, none⟩ (.int .u32 (x : Int))) b (l.set i x) := by
  obtain ⟨cur, rest, h, hc⟩ := h
  refine ⟨cur.setIfInBounds i (.int .u32 (x : Int)), rest, ?_, ?_⟩
  · simp only [World.setCell, Array.getElem?_modify, h]; simp
  · rw [Array.toList_setIfInBounds, hc, List.set_append_left _ _ (by rw [wcs_length]; exact hi)]
    simp [wcs, List.map_set, wc]
theorem Own.set' {w : World} {b : Nat} {l : List Nat} (h : Own w b l) {i : Nat} (hi : i < l.length) (x : Nat) {z : Int} (hz : z = (x : Int)) : Own (w.setCell ⟨b, i, none⟩ (.int .u32 z)) b (l.set i x) := by
  subst hz; exact h.set hi x
theorem Hid.len_set {l : List Nat} {n : Nat} (h : Hid (l.length = n)) (k x : Nat) : Hid ((l.set k x).length = n) := by
  have : (l.set k x).length = n := by rw [List.length_set]; exact h.out
  exact this
theorem Hid.dg_set {l : List Nat} (h : Hid (Dg l)) (k : Nat) {x : Nat} (hx : x < B) : Hid (Dg (l.set k x)) := Dg.set h.out k hx
theorem Own.drew {w : World} {b : Nat} {l : List Nat} (h : Own w b l) : Own w.drew b l := h
theorem Own.keep {w w' : World} {b : Nat} {l : List Nat} (h : Own w b l) (hb : w'.heap[b]? = w.heap[b]?) : Own w' b l := by
  obtain ⟨cur, rest, h, hc⟩ := h; exact ⟨cur, rest, hb.trans h, hc⟩
theorem Own.alloc {w : World} {b : Nat} {l : List Nat} (h : Own w b l) (o : Obj) : Own (w.alloc o) b l := h.keep (Below.heap_alloc w o b h.lt)
theorem Own.ext {w w' : World} {b : Nat} {l : List Nat} (h : Own w b l) (hb : Below w.heap.size w w') : Own w' b l := h.keep (hb.block b h.lt)
theorem Own.far {w : World} {b : Nat} {l : List Nat} (h : Own w b l) {p : Addr} (hp : b ≠ p.block) (u : Value) : Own (w.setCell p u) b l := h.keep (Below.heap_setCell w p u b hp)
theorem Own.sl {w : World} {b : Nat} {l : List Nat} (h : Own w b l) {c : Nat} (h1 : l.length ≤ c) (h2 : c ≤ maxLen) : Sl w (.slice (some ⟨b, 0, none⟩) l.length c) l.length (wcs l) := by
  refine ⟨_, c, rfl, h1, h2, (fun h => by cases h), fun i x hx => ⟨b, 0, rfl, ?_⟩⟩
  have hi : i < l.length := by have := (List.getElem?_eq_some_iff.1 hx).1; rwa [wcs_length] at this
  rw [wcs_get hi] at hx
  rw [Nat.zero_add, h.cell hi, hx]
theorem Own.new (w : World) (l : List Nat) : Own (w.alloc (.cells (wcs l).toArray 116)) w.heap.size l := ⟨_, [], heap_alloc_new w _, by simp⟩
/-- what append leaves -/
theorem Own.ofRow {w : World} {base n : Nat} {v : Value} {l : List Nat} (h : w.ownsRow base 116 1 v n (wcs l)) (hn : 0 < n) : ∃ g cap, v = .slice (some ⟨g, 0, none⟩) n cap ∧ base ≤ g ∧ n ≤ cap ∧ cap ≤ maxLen ∧ Own w g l := by
  obtain ⟨h1, ⟨_, h2⟩ | ⟨g, cap, cur, rfl, hb, hg, hn, hm, hs, ht⟩⟩ := h
  · omega
  · refine ⟨g, cap, rfl, hb, hn, hm, cur, cur.toList.drop (n * 1), hg, ?_⟩
    rw [← ht, List.take_append_drop]
theorem u32_info : (Tryz.prog.info? 116).map (fun i => (i.zero, i.size, i.bytes)) = some (some (.int .u32 0), 1, 4) := by kernel_rfl
theorem madeCells_words (n : Nat) : madeCells #[Value.int .u32 0] n = (wcs (List.replicate n 0)).toArray := by
  apply Array.ext
  · simp [size_madeCells, wcs]
  · intro i h1 h2; simp [madeCells, wcs, wc, Nat.mod_one]
/-- make([]uint32, n): a new row of zeros; the world goes on under a name -/
theorem wpList_make_words {w : World} {ops : Array Oper} {rest : List Oper} {o : Oper} {a : Act} {Q : Exit → Act → World → Prop}
    (hg : o.guard = none) (l c : Operand) (hop : o.op = Op.makeSlice 49 l c) {z : Int} (n : Nat) (hl : a.eval l = .int .i64 z) (hc : a.eval c = .int .i64 z) (hz : z = (n : Int)) (hb : n ≤ 10000000000)
    (h : ∀ W, Own W w.heap.size (List.replicate n 0) → Below w.heap.size w W → W.heap.size = w.heap.size + 1 → wpList Tryz.prog ops Q rest (a.put o.dst (.slice (some ⟨w.heap.size, 0, none⟩) n n)) W) :
    wpList Tryz.prog ops Q (o :: rest) a w := by
  subst hz
  obtain ⟨i, hi, hz0, hz1, hz2⟩ := info_parts u32_info
  refine wpList_make_row w hg l c _ hop 116 i _ Tryz.underlying49 hi hz0 hz1 rfl _ _ n hl hc (by rw [hz2]; omega) (by omega) ?_
  rw [madeCells_words]
  exact h _ (Own.new _ _) (by go_grown) (by simp)
end Nm
end Go.Proofs.YtlbnjgnbpiidaaaGreatDoor
namespace Go.Proofs.YtlbnjgnbpiidaaaGreatDoor
open Go.RowKit
namespace Nm
set_option maxHeartbeats 2000000 in
theorem trim_at (l : List Nat) (hd : Dg l) (v : Value) (w : World) (hs : Sl w v l.length (wcs l)) : Calls Tryz.prog 87 #[v] w (TrimPost w (val l)) := by
  obtain ⟨a, c, rfl, hs0⟩ := id hs
  obtain ⟨hc1, hc2⟩ := sl_caps hs
  have HD := Lib.hid hd
  clear hd hs0
  go_enter Tryz.func87, Tryz.ntmps87
  go_wp2
  go_loop [0] (fun t => ∃ k : Nat, k ≤ l.length ∧ t = .slice a k c ∧ Hid (val (l.take k) = val l)) (fun t => match t with | .slice _ k _ => k | _ => 0)
  case atStart => exact ⟨l.length, by omega, rfl, by have : val (l.take l.length) = val l := by rw [List.take_length]
                                                     exact this⟩
  case round =>
    obtain ⟨k, hk, rfl, HV⟩ := hrel
    cases k with
    | zero =>
      go_wp2
      go_ret
      refine ⟨_, rfl, ?_, rfl⟩
      have e := digs_take HD.out (k := 0) (by omega) HV.out (fun j hj h => by omega)
      have hs2 := sl_take hs (k := 0) (by omega)
      unfold N wlen; rw [e]; simpa [wcs] using hs2
    | succ j =>
      have hj : j < l.length := by omega
      obtain ⟨b, o, rfl, e0⟩ := sl_addr hs (wcs_get hj)
      by_cases hz : l[j] = 0
      · have HV2 := Lib.hid (val_take_zero hj HV.out hz)
        rw [hz] at e0
        clear hz
        go_wp2
        go_round
        case rel => exact ⟨j, by omega, by go_num, HV2⟩
        case measure => simp
      · have hne : ((l[j] : Int) == 0) = false := by simp; omega
        have HZ := Lib.hid hz
        clear hz
        go_wp2
        go_ret
        refine ⟨_, rfl, ?_, rfl⟩
        have e := digs_take HD.out (k := j + 1) (by omega) HV.out (fun i hi h => by obtain rfl : i = j := (by omega); exact HZ.out)
        have hs2 := sl_take hs (k := j + 1) (by omega)
        unfold N wlen; rw [e, List.length_take, Nat.min_eq_left (by omega), ← wcs_take]; exact hs2
/-- trim, with the address that it keeps -/
def TrimKeep (w : World) (a : Option Addr) (c n : Nat) (e : Ending) (w' : World) : Prop := e = .returned (.slice a (wlen n) c) ∧ N w (.slice a (wlen n) c) n ∧ w = w'
set_option maxHeartbeats 2000000 in
theorem trim_keep (l : List Nat) (hd : Dg l) (a : Option Addr) (c : Nat) (w : World) (hs : Sl w (.slice a l.length c) l.length (wcs l)) : Calls Tryz.prog 87 #[.slice a l.length c] w (TrimKeep w a c (val l)) := by
  obtain ⟨hc1, hc2⟩ := sl_caps hs
  have HD := Lib.hid hd
  clear hd
  go_enter Tryz.func87, Tryz.ntmps87
  go_wp2
  go_loop [0] (fun t => ∃ k : Nat, k ≤ l.length ∧ t = .slice a k c ∧ Hid (val (l.take k) = val l)) (fun t => match t with | .slice _ k _ => k | _ => 0)
  case atStart => exact ⟨l.length, by omega, rfl, by have : val (l.take l.length) = val l := by rw [List.take_length]
                                                     exact this⟩
  case round =>
    obtain ⟨k, hk, rfl, HV⟩ := hrel
    cases k with
    | zero =>
      go_wp2
      go_ret
      have e := digs_take HD.out (k := 0) (by omega) HV.out (fun j hj h => by omega)
      have hs2 := sl_take hs (k := 0) (by omega)
      have hw : wlen (val l) = 0 := by unfold wlen; rw [e]; simp
      refine ⟨by rw [hw]; rfl, ?_, rfl⟩
      rw [hw]; unfold N; rw [hw, e]; simpa [wcs] using hs2
    | succ j =>
      have hj : j < l.length := by omega
      obtain ⟨b, o, rfl, e0⟩ := sl_addr hs (wcs_get hj)
      by_cases hz : l[j] = 0
      · have HV2 := Lib.hid (val_take_zero hj HV.out hz)
        rw [hz] at e0
        clear hz
        go_wp2
        go_round
        case rel => exact ⟨j, by omega, by go_num, HV2⟩
        case measure => simp
      · have hne : ((l[j] : Int) == 0) = false := by simp; omega
        have HZ := Lib.hid hz
        clear hz
        go_wp2
        go_ret
        have e := digs_take HD.out (k := j + 1) (by omega) HV.out (fun i hi h => by obtain rfl : i = j := (by omega); exact HZ.out)
        have hs2 := sl_take hs (k := j + 1) (by omega)
        have hw : wlen (val l) = j + 1 := by unfold wlen; rw [e, List.length_take, Nat.min_eq_left (by omega)]
        refine ⟨by rw [hw]; rfl, ?_, rfl⟩
        rw [hw]; unfold N; rw [hw, e, ← wcs_take]; exact hs2
theorem xnatOf_at (n : Nat) (hn : n < 18446744073709551616) (w : World) : Calls Tryz.prog 83 #[.int .u64 (n : Int)] w (NPost w n) := by
  go_enter Tryz.func83, Tryz.ntmps83
  go_wp2_with fail
  have hO := Own.new w [n % 4294967296, n / 4294967296]
  have hS := hO.sl (c := 2) (by simp) (by decide)
  have hD : Dg [n % 4294967296, n / 4294967296] := Dg.cons.2 ⟨Nat.mod_lt _ (by decide), Dg.cons.2 ⟨by rw [B_eq]; omega, Dg.nil⟩⟩
  have hV : val [n % 4294967296, n / 4294967296] = n := by simp only [val, B_eq]; omega
  have hT := trim_at _ hD _ _ hS
  rw [hV] at hT
  refine Calls.mono hT ?_
  rintro e w' ⟨v, rfl, hv, rfl⟩
  clear hT hS hO hD hV
  go_wp2
  go_ret
  exact ⟨_, rfl, hv, by go_grown⟩
def QPost (w : World) (v : Value) (e : Ending) (w' : World) : Prop := e = .returned v ∧ ∃ k, w' = w.drewN k
set_option maxHeartbeats 4000000 in
theorem cmp_at (x y : Nat) (v u : Value) (w : World) (hx : N w v x) (hy : N w u y) : Calls Tryz.prog 61 #[v, u] w (QPost w (.int .i64 (cmpN x y))) := by
  obtain ⟨a, c, rfl, s1⟩ := hx.open_
  obtain ⟨a', c', rfl, s2⟩ := hy.open_
  obtain ⟨p1, p2⟩ := sl_caps s1
  obtain ⟨q1, q2⟩ := sl_caps s2
  have HX := Lib.hid (digs_dg x)
  have HY := Lib.hid (digs_dg y)
  clear hx hy
  by_cases hlen : (digs x).length = (digs y).length
  · have HE : Hid ((digs x).drop (digs x).length = (digs y).drop (digs x).length) := by
      have : (digs x).drop (digs x).length = (digs y).drop (digs x).length := by rw [List.drop_length, hlen, List.drop_length]
      exact this
    rw [← hlen] at s2 q1
    have HL := Lib.hid hlen
    have hb : (((digs x).length : Int) != ((digs x).length : Int)) = false := by simp
    rw [← hlen]
    clear hlen
    go_enter Tryz.func61, Tryz.ntmps61
    go_wp2
    go_loopw [5] (fun i wr => ∃ k m : Nat, k ≤ (digs x).length ∧ wr = w.drewN m ∧ i = .int .i64 ((k : Int) - 1) ∧ Hid ((digs x).drop k = (digs y).drop k)) (fun i _ => (intOf i + 1).toNat)
    case atStart => exact ⟨_, 0, Nat.le_refl _, rfl, rfl, HE⟩
    case round =>
      obtain ⟨k, m, hk, rfl, rfl, HK⟩ := hrel
      cases k with
      | zero =>
        go_wp2
        go_ret
        exact ⟨ret_int (cmpN_eq (digs_inj (by simpa using HK.out))).symm, _, rfl⟩
      | succ j =>
        have hj : j < (digs x).length := by omega
        have hj' : j < (digs y).length := by rw [← HL.out]; exact hj
        obtain ⟨b, o, rfl, e0⟩ := sl_addr s1 (wcs_get hj)
        obtain ⟨b', o', rfl, f0⟩ := sl_addr s2 (wcs_get hj')
        have HLT := Lib.hid (val_lt_of HX.out hj hj' HK.out)
        have HGT := Lib.hid (val_lt_of HY.out hj' hj HK.out.symm)
        have HEQ : Hid ((digs x)[j] = (digs y)[j] → (digs x).drop j = (digs y).drop j) := by
          have : (digs x)[j] = (digs y)[j] → (digs x).drop j = (digs y).drop j := fun h => by rw [List.drop_eq_getElem_cons hj, List.drop_eq_getElem_cons hj', h, HK.out]
          exact this
        rw [show (((j + 1 : Nat) : Int) - 1) = (j : Int) by omega]
        generalize (digs x)[j] = X at *
        generalize (digs y)[j] = Y at *
        rcases Nat.lt_trichotomy X Y with h | h | h
        · have HR := Lib.hid (HLT.out h)
          have hb2 : ((X : Int) != (Y : Int)) = true := by simp; omega
          clear HLT HGT HEQ
          go_wp2
          go_quiet (fail)
          go_wp2
          go_quiet (fail)
          go_wp2
          go_ret
          exact ⟨ret_int (cmpN_lt (by simpa [val_digs] using HR.out)).symm, _, by rw [World.drewN_drewN, World.drewN_drewN]⟩
        · subst h
          have HR := Lib.hid (HEQ.out rfl)
          have hb2 : ((X : Int) != (X : Int)) = false := by simp
          clear HLT HGT HEQ
          go_wp2
          go_quiet (fail)
          go_wp2
          go_roundw
          case rel => exact ⟨j, _, by omega, rfl, rfl, HR⟩
          case measure => simp [intOf]
        · have HR := Lib.hid (HGT.out h)
          have hb2 : ((X : Int) != (Y : Int)) = true := by simp; omega
          clear HLT HGT HEQ
          go_wp2
          go_quiet (fail)
          go_wp2
          go_quiet (fail)
          go_wp2
          go_ret
          exact ⟨ret_int (cmpN_gt (by simpa [val_digs] using HR.out)).symm, _, by rw [World.drewN_drewN, World.drewN_drewN]⟩
  · have HL : Hid (∀ b, decide ((digs x).length < (digs y).length) = b → cmpN x y = if b then -1 else 1) := by
      have : ∀ b, decide ((digs x).length < (digs y).length) = b → cmpN x y = if b then -1 else 1 := fun b hb => by
        subst hb
        by_cases h : (digs x).length < (digs y).length
        · rw [cmpN_lt (lt_of_wlen h)]; simp [h]
        · rw [cmpN_gt (lt_of_wlen (show wlen y < wlen x by unfold wlen; omega))]; simp [h]
      exact this
    have hb : (((digs x).length : Int) != ((digs y).length : Int)) = true := by simp; omega
    by_cases h : (digs x).length < (digs y).length
    · have HR := Lib.hid (HL.out true (decide_eq_true h))
      clear hlen
      go_enter Tryz.func61, Tryz.ntmps61
      go_wp2
      go_ret
      exact ⟨ret_int HR.out.symm, 0, rfl⟩
    · have HR := Lib.hid (HL.out false (decide_eq_false h))
      clear hlen
      go_enter Tryz.func61, Tryz.ntmps61
      go_wp2
      go_ret
      exact ⟨ret_int HR.out.symm, 0, rfl⟩
end Nm
end Go.Proofs.YtlbnjgnbpiidaaaGreatDoor
