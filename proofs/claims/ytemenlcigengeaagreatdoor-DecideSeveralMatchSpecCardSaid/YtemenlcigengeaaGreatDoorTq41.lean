/- What a region that draws its order holds on to, where it ends in a store into a block of the call's own. No program stands in it. append onto a row of the call's own, with a word on all cells of the row's block: no program stands in it. Exact numbers: plain mathematics over the core's Rat. XratFrom, Zero, Turned of package value. Zero, Turned, Times of package value. readPlan of package decide. Whole, Plus, Times, Minus, Over, Less of the references: on numbers that are short enough. Plain: the evidence as a number: it starts at 1, is never below 0, and a pair leaves it as it is on average. -/
import Derived.Test.YtemenlcigengeaaGreatDoorTq00
import Derived.Deep.RegionHeld3
import Derived.Maps.AppendAt
import Derived.Test.YtemenlcigengeaaGreatDoorTq16
import Derived.Test.YtemenlcigengeaaGreatDoorTq03
import Derived.Test.YtemenlcigengeaaGreatDoorProg
import Derived.Test.YtemenlcigengeaaGreatDoorTq05
import Derived.Test.YtemenlcigengeaaGreatDoorTq06
import Derived.Test.YtemenlcigengeaaGreatDoorTq07
import Derived.Test.YtemenlcigengeaaGreatDoorTq08
import Derived.Deep.Cut
import Derived.Test.YtemenlcigengeaaGreatDoorTq17
import Derived.Test.YtemenlcigengeaaGreatDoorTq18
import Derived.Test.YtemenlcigengeaaGreatDoorTq19
import Derived.Test.YtemenlcigengeaaGreatDoorTq20
import Derived.Test.YtemenlcigengeaaGreatDoorTq21
import Derived.Test.YtemenlcigengeaaGreatDoorTq36
import Derived.Test.YtemenlcigengeaaGreatDoorTq23
import Derived.Test.YtemenlcigengeaaGreatDoorTq24
import Derived.Test.YtemenlcigengeaaGreatDoorTq25
import Derived.Test.YtemenlcigengeaaGreatDoorTq26
import Derived.Test.YtemenlcigengeaaGreatDoorTq27
import Derived.Test.YtemenlcigengeaaGreatDoorTq28
import Derived.Test.YtemenlcigengeaaGreatDoorTq29
import Derived.Test.YtemenlcigengeaaGreatDoorShelf
import Derived.Test.YtemenlcigengeaaGreatDoorTq30
import Derived.Test.YtemenlcigengeaaGreatDoorTq31
import Derived.Test.YtemenlcigengeaaGreatDoorTq32
import Derived.Test.YtemenlcigengeaaGreatDoorTq33
import Derived.Test.YtemenlcigengeaaGreatDoorTq34
import Derived.Test.YtemenlcigengeaaGreatDoorTq35
namespace Go.Proofs.YtemenlcigengeaaGreatDoor
open Go.RowKit
/-- Two struct parameters, and a struct result. -/
theorem wp_box3r {P : Program} {c : Code} {Q : Exit → Act → World → Prop} {a : Act} {w : World} {A B C : Array Value} {t u v : TypeId}
    (h : ∀ W, W.heap.size = w.heap.size + 3 → Below w.heap.size w W → Box W w.heap.size A → Box W (w.heap.size + 1) B → Box W (w.heap.size + 2) C → Fre W (w.heap.size + 2) → c.wp P Q a W) : c.wp P Q a (((w.alloc (.cells A t)).alloc (.cells B u)).alloc (.cells C v)) := by
  refine h _ (by simp) (by go_grown) (((Box.new _ _ _).ext (by go_grown)).ext (by go_grown)) ?_ ?_ ?_
  · have := Box.new (w.alloc (.cells A t)) B u
    exact Box.ext (by simpa using this) (by go_grown)
  · have := Box.new ((w.alloc (.cells A t)).alloc (.cells B u)) C v
    simpa using this
  · have := Fre.new ((w.alloc (.cells A t)).alloc (.cells B u)) C v
    simpa using this

end Go.Proofs.YtemenlcigengeaaGreatDoor
namespace Go.Proofs.YtemenlcigengeaaGreatDoor
open Go.RowKit
/-- all cells of the block in which the slice's row lies are such -/
def RowQ (Q : Value → Prop) (w : World) (v : Value) : Prop := ∀ g, v.ownBlock = some g → ∀ (j : Nat) (u : Value), w.cell? ⟨g, j, none⟩ = some u → Q u
theorem RowQ.nil (Q : Value → Prop) (w : World) : RowQ Q w (.slice none 0 0) := fun g e => by cases e
theorem RowQ.ext {Q : Value → Prop} {w w' : World} {base e size n : Nat} {v : Value} {xs : List Value} (h : RowQ Q w v) (ho : w.ownsRow base e size v n xs) (hb : Below w.heap.size w w') : RowQ Q w' v := fun g hg j u hu =>
  h g hg j u ((hb.cell (p := ⟨g, j, none⟩) (ho.lt g hg).2).symm.trans hu)
theorem cell_in {w : World} {g j : Nat} {cur : Array Value} {e : TypeId} {fr : Nat × Nat} {u : Value} (hg : w.heap[g]? = some (.cells cur e fr)) (h : w.cell? ⟨g, j, none⟩ = some u) : u ∈ cur.toList := by
  simp only [World.cell?, hg] at h
  have h' : cur[j]? = some u := by simpa using h
  rw [← Array.getElem?_toList] at h'
  exact List.mem_of_getElem? h'
theorem zero_in {cs : Array Value} {n : Nat} {u : Value} (h : u ∈ (Builtin.zeroCells cs n).toList) : u ∈ cs.toList := by
  unfold Builtin.zeroCells at h
  simp at h
  obtain ⟨a, h1, h2⟩ := h
  have hp : 0 < cs.size := by
    rcases Nat.eq_zero_or_pos cs.size with h0 | h0
    · rw [h0] at h1; simp at h1
    · exact h0
  have hlt : a % cs.size < cs.size := Nat.mod_lt _ hp
  rw [← h2, getElem!_pos cs _ hlt]
  simp
theorem row_of_cells {Q : Value → Prop} {w : World} {base e size n : Nat} {v : Value} {xs : List Value} (h : RowQ Q w v) (ho : w.ownsRow base e size v n xs) : ∀ u ∈ xs, Q u := by
  intro u hu
  obtain ⟨h1, ⟨rfl, rfl⟩ | ⟨g, cap, cur, rfl, hb, hg, hn, hm, hs, ht⟩⟩ := ho
  · have : xs = [] := List.length_eq_zero_iff.1 (by omega)
    subst this; cases hu
  · rw [← ht] at hu
    obtain ⟨j, hj⟩ := List.getElem?_of_mem (List.mem_of_mem_take hu)
    refine h g rfl j u ?_
    simp only [World.cell?, hg]
    rw [Array.getElem?_toList] at hj
    simpa using hj
theorem run_append_q {P : Program} (Q : Value → Prop) (w : World) (base : Nat) (t ty e : TypeId) (i : TypeInfo) (z : Value) (size bytes : Nat) (ht : P.underlying t = some (.slice e)) (hi : P.info? e = some i) (hz : i.zero = some z)
    (hsize : i.size = size) (hby : i.bytes = bytes) (hzs : z.cells.size = size) (hsz : 0 < size)
    (v : Value) (n : Nat) (xs : List Value) (hown : w.ownsRow base e size v n xs)
    (a : Addr) (m c : Nat) (news : List Value) (hl : news.length = m * size) (hnews : ∀ j u, news[j]? = some u → w.cell? (a.add j) = some u) (h1 : ∀ u ∈ news, u.oneCell' = true)
    (h63 : n + m ≤ maxLen) (hbytes : (n + m) * bytes ≤ 140737488355328) (hbase : base ≤ w.heap.size) (hQ : RowQ Q w v) (hQz : ∀ u ∈ z.cells.toList, Q u) (hQn : ∀ u ∈ news, Q u) :
    ∃ v' w', (Builtin.append_ #[t, t] ty #[v, .slice (some a) m c]).run P w = .ok v' w' ∧ w'.ownsRow base e size v' (n + m) (xs ++ news) ∧ w.grownBy w' v.ownBlock ∧
      (v'.ownBlock = v.ownBlock ∨ v'.ownBlock = some w.heap.size) ∧ RowQ Q w' v' := by
  obtain ⟨v', w', hr, h2, h3, h4, h5⟩ := run_append_own_at (P := P) w base t ty e i z size bytes ht hi hz hsize hby hzs hsz v n xs hown a m c news hl hnews h1 h63 hbytes hbase
  refine ⟨v', w', hr, h2, h3, h5, ?_⟩
  have hxs := row_of_cells hQ hown
  subst hsize
  subst hby
  have hsmall : n + m ≤ 9223372036854775807 := by simp only [maxLen] at h63; omega
  have fresh : ∀ (cs : List Value) (A : Array Value), (∀ u ∈ A.toList, Q u) → RowQ Q (w.drew.alloc (.cells A e)) (.slice (some ⟨w.heap.size, 0, none⟩) (n + m) cs.length) := fun cs A hA g hg j u hu => by
    cases hg
    exact hA u (cell_in (heap_alloc_new w.drew _) hu)
  rcases hown.2 with ⟨rfl, rfl⟩ | ⟨g, cap, cur, rfl, hbg, hg, hnc, hcm, hcs, htake⟩
  · by_cases hm : m = 0
    · subst hm
      have e1 := h4.2 ⟨rfl, rfl⟩
      rw [e1]; exact RowQ.nil Q w'
    · have hr' := run_append_nil (P := P) w t ty e i z ht hi hz a m c news hl hnews (by omega) (by omega) (by have hb := hbytes; simp only [Nat.zero_add] at hb; omega)
      rw [hr] at hr'
      cases hr'
      intro g hg j u hu
      cases hg
      have := cell_in (heap_alloc_new w.drew _) hu
      simp only [Array.toList_append, List.mem_append] at this
      rcases this with h | h
      · exact hQn u h
      · exact hQz u (zero_in h)
  · by_cases hroom : n + m ≤ cap
    · have hfit : n * i.size + news.length ≤ cur.size := by rw [hl, hcs, ← Nat.add_mul]; exact Nat.mul_le_mul_right _ hroom
      have hr' := run_append_room (P := P) w t ty e i ht hi g n cap cur hg a m c news hl hnews h1 hroom hfit
      rw [hr] at hr'
      cases hr'
      have hcur : ∀ u ∈ cur.toList, Q u := fun u hu => by
        obtain ⟨j, hj⟩ := List.getElem?_of_mem hu
        refine hQ g rfl j u ?_
        simp only [World.cell?, hg]
        rw [Array.getElem?_toList] at hj
        simpa using hj
      intro g' hg' j u hu
      cases hg'
      have := cell_in (setRow_heap w g cur _ e _ hg) hu
      simp only [List.mem_append] at this
      rcases this with (h | h) | h
      · exact hcur u (List.mem_of_mem_take h)
      · exact hQn u h
      · exact hcur u (List.mem_of_mem_drop h)
    · have holds : ∀ j u, xs[j]? = some u → w.cell? ((⟨g, 0, none⟩ : Addr).add j) = some u := hown.cells (g := g) rfl
      have hr' := run_append_grow (P := P) w t ty e i z ht hi hz ⟨g, 0, none⟩ n cap xs hown.1 holds a m c news hl hnews (by omega) (by omega) (growslice_fits (by omega) hbytes)
      rw [hr] at hr'
      cases hr'
      intro g' hg' j u hu
      cases hg'
      have := cell_in (heap_alloc_new w.drew _) hu
      simp only [Array.toList_append, List.mem_append] at this
      rcases this with (h | h) | h
      · exact hxs u h
      · exact hQn u h
      · exact hQz u (zero_in h)
theorem wpList_append_q {P : Program} (Q : Value → Prop) {w : World} {ops : Array Oper} {rest : List Oper} {o : Oper} {a : Act} {Q' : Exit → Act → World → Prop} (hgd : o.guard = none) (s x : Operand) (t : TypeId)
    (ho : o.op = .call { callee := .builtin .append, args := #[s, x], argTypes := #[t, t] })
    (base : Nat) (e : TypeId) {z : Value} {size bytes : Nat} (ht : P.underlying t = some (.slice e)) (hinfo : (P.info? e).map (fun i => (i.zero, i.size, i.bytes)) = some (some z, size, bytes))
    (hzs : z.cells.size = size) (hsz : 0 < size)
    {v : Value} {n : Nat} {xs : List Value} (hs : a.eval s = v) (hown : w.ownsRow base e size v n xs)
    {ad : Addr} {m c : Nat} {news : List Value} (hx : a.eval x = .slice (some ad) m c) (hsl : Sl w (.slice (some ad) m c) m news) (hl : news.length = m * size) (h1 : ∀ u ∈ news, u.oneCell' = true)
    (h63 : n + m ≤ maxLen) (hbytes : (n + m) * bytes ≤ 140737488355328) (hbase : base ≤ w.heap.size) (hQ : RowQ Q w v) (hQz : ∀ u ∈ z.cells.toList, Q u) (hQn : ∀ u ∈ news, Q u)
    (h : ∀ v' w', w'.ownsRow base e size v' (n + m) (xs ++ news) → w.grownBy w' v.ownBlock → (v'.ownBlock = v.ownBlock ∨ v'.ownBlock = some w.heap.size) → RowQ Q w' v' → wpList P ops Q' rest (a.put o.dst v') w') : wpList P ops Q' (o :: rest) a w := by
  refine wpList_plain hgd fun K hK => ?_
  obtain ⟨i, hi, hz0, hz1, hz2⟩ := info_parts hinfo
  rcases hsl.src with ⟨h0, _⟩ | ⟨ad', c', e', hnews⟩
  · cases h0
  · cases e'
    obtain ⟨v', w', hr, h2, h3, h5, h6⟩ := run_append_q (P := P) Q w base t o.type e i z size bytes ht hi hz0 hz1 hz2 hzs hsz v n xs hown ad m c news hl hnews h1 h63 hbytes hbase hQ hQz hQn
    unfold Oper.wp execOp
    simp only [ho, resolve, invoke, builtin, Sem.run_bind, Sem.run_pure, Result.andThen_ok, List.map_toArray, List.map_cons, List.map_nil, hs, hx, hr]
    exact hK _ _ (h v' w' h2 h3 h5 h6)
end Go.Proofs.YtemenlcigengeaaGreatDoor
namespace Go.Proofs.YtemenlcigengeaaGreatDoor
namespace Nm
theorem normalize_congr {a b : Int} {d : Nat} (hd hd' : d ≠ 0) (h : a = b) : Rat.normalize a d hd = Rat.normalize b d hd' := by subst h; rfl
theorem mul_sgn (x y : Rat) : x.num * y.num = sgn (decide (x.num < 0) != decide (y.num < 0)) (x.num.natAbs * y.num.natAbs) := by
  have hx := sgn_self x.num
  have hy := sgn_self y.num
  generalize decide (x.num < 0) = b at *
  generalize decide (y.num < 0) = c at *
  conv => lhs; rw [← hx, ← hy]
  generalize x.num.natAbs = m
  generalize y.num.natAbs = n
  cases b <;> cases c <;> simp [sgn, Int.neg_mul, Int.mul_neg]
end Nm
end Go.Proofs.YtemenlcigengeaaGreatDoor
namespace Go.Proofs.YtemenlcigengeaaGreatDoor
open Go.RowKit
namespace Nm
def FromPost (w : World) (b : Bool) (n d : Nat) (e : Ending) (w' : World) : Prop := ∃ v1 v2, e = .returned (.agg #[.bool (b && decide (0 < n / n.gcd d)), v1, v2]) ∧ N w' v1 (n / n.gcd d) ∧ N w' v2 (d / n.gcd d) ∧ Below w.heap.size w w'
set_option maxHeartbeats 8000000 in
theorem from_raw (b : Bool) (n d : Nat) (hd : 0 < d) (v u : Value) (w : World) (hn : N w v n) (hu : N w u d) (hnl : wlen n ≤ 1000000000) (hdl : wlen d ≤ 1000000000) :
    Calls Tryz.prog 74 #[.bool b, v, u] w (FromPost w b n d) := by
  have HN := Lib.hid hn
  have HU := Lib.hid hu
  obtain ⟨a, c, rfl, s1⟩ := hn.open_
  obtain ⟨a', c', rfl, s2⟩ := hu.open_
  clear s1 s2 hn hu
  have hgp : 0 < n.gcd d := Nat.gcd_pos_of_pos_right _ hd
  go_enter Tryz.func74, Tryz.ntmps74
  go_upto_region 1 with (fail)
  refine wp_box1r fun W hsz hbW hC hF => ?_
  clear hsz
  go_wp2_with fail
  refine (common_at n d _ _ W (HN.out.ext hbW) (HU.out.ext hbW) hnl hdl).mono ?_
  rintro e w1 ⟨vg, rfl, hg, hb1⟩
  have hC1 := hC.ext hb1
  have hF1 := hF.ext hC hb1
  have hbw1 := ext_trans hbW hb1
  clear hC hF hb1 hbW
  have hx1 := xnatOf_at 1 (by decide) w1
  rw [show ((1 : Nat) : Int) = 1 from rfl] at hx1
  go_wp2_with fail
  refine hx1.mono ?_
  rintro e w2 ⟨vo, rfl, ho, hb2⟩
  have hg2 := hg.ext hb2
  have hC2 := hC1.ext hb2
  have hF2 := hF1.ext hC1 hb2
  have hbw2 := ext_trans hbw1 hb2
  clear hC1 hF1 hb2 hbw1 hx1 hg
  go_wp2_with fail
  refine (cmp_at (n.gcd d) 1 vg vo w2 hg2 ho).mono ?_
  rintro e w3 ⟨rfl, k, rfl⟩
  have hg3 : N (w2.drewN k) vg (n.gcd d) := hg2
  have hC3 : Box (w2.drewN k) w.heap.size zeroX := hC2
  have hF3 : Fre (w2.drewN k) w.heap.size := hF2
  have hbw3 : Below w.heap.size w (w2.drewN k) := below_drewN hbw2 k
  clear hg2 hC2 hF2 hbw2 ho
  generalize w2.drewN k = w3 at *
  by_cases h1 : n.gcd d = 1
  · have hc0 : cmpN (n.gcd d) 1 = 0 := cmpN_zero.2 h1
    have HFIN1 : Hid (n / n.gcd d = n) := by
      have : n / n.gcd d = n := by rw [h1, Nat.div_one]
      exact this
    have HFIN2 : Hid (d / n.gcd d = d) := by
      have : d / n.gcd d = d := by rw [h1, Nat.div_one]
      exact this
    rw [hc0]
    have hN3 := HN.out.ext hbw3
    have hU3 := HU.out.ext hbw3
    clear hc0 h1 hgp hg3
    have g0 := hF3 0
    have g1 := hF3 1
    have g2 := hF3 2
    obtain ⟨r0, r1, r2⟩ := boxX hC3
    have hLm : 0 < (digs (n)).length ↔ 0 < n := by rw [Nat.pos_iff_ne_zero, Nat.pos_iff_ne_zero]; exact not_congr wlen_eq_zero
    have HLM := Lib.hid hLm
    clear hLm
    cases b
    · obtain ⟨k1, k2, k3, z0, z1, z2⟩ := res3 false hC3 hN3 hU3 hbw3 (Nat.le_refl _)
      have HK := Lib.hid (And.intro k1 (And.intro k2 k3))
      clear k1 k2 k3
      go_wp2
      exact bodyPost_ret (v := .agg #[.bool false, .slice a (digs (n)).length c, .slice a' (digs (d)).length c']) (by simp [results, Tryz.results74, go_sem, z0, z1, z2]) rfl ⟨_, _, rfl, by rw [HFIN1.out]; exact HK.out.1, by rw [HFIN2.out]; exact HK.out.2.1, HK.out.2.2⟩
    · by_cases hm : 0 < n
      · have hl : 0 < (digs (n)).length := HLM.out.2 hm
        have hd1 : decide (0 < n) = true := decide_eq_true hm
        have HD := Lib.hid hd1
        obtain ⟨k1, k2, k3, z0, z1, z2⟩ := res3 true hC3 hN3 hU3 hbw3 (Nat.le_refl _)
        have HK := Lib.hid (And.intro k1 (And.intro k2 k3))
        clear k1 k2 k3 hm hd1
        go_wp2
        exact bodyPost_ret (v := .agg #[.bool true, .slice a (digs (n)).length c, .slice a' (digs (d)).length c']) (by simp [results, Tryz.results74, go_sem, z0, z1, z2]) rfl ⟨_, _, by rw [HFIN1.out, HD.out]; rfl, by rw [HFIN1.out]; exact HK.out.1, by rw [HFIN2.out]; exact HK.out.2.1, HK.out.2.2⟩
      · have hl : (digs (n)).length = 0 := by have := HLM.out; omega
        have hd1 : decide (0 < n) = false := decide_eq_false hm
        have HD := Lib.hid hd1
        have HL0 := Lib.hid hl
        have hlb : decide ((0 : Int) < ((digs (n)).length : Int)) = false := by rw [hl]; rfl
        have hlc : decide (0 < (digs (n)).length) = false := by rw [hl]; rfl
        obtain ⟨k1, k2, k3, z0, z1, z2⟩ := res3 false hC3 hN3 hU3 hbw3 (Nat.le_refl _)
        have HK := Lib.hid (And.intro k1 (And.intro k2 k3))
        clear k1 k2 k3 hm hd1 hl
        go_wp2
        exact bodyPost_ret (v := .agg #[.bool false, .slice a (digs (n)).length c, .slice a' (digs (d)).length c']) (by simp [results, Tryz.results74, go_sem, z0, z1, z2]) rfl ⟨_, _, by rw [HFIN1.out, HD.out]; rfl, by rw [HFIN1.out]; exact HK.out.1, by rw [HFIN2.out]; exact HK.out.2.1, HK.out.2.2⟩
  · have hne : (cmpN (n.gcd d) 1 != 0) = true := by
      have := @cmpN_zero (n.gcd d) 1
      simp only [bne_iff_ne]; omega
    go_wp2_with fail
    refine (over_at n (n.gcd d) _ vg w3 (HN.out.ext hbw3) hg3 hnl hgp).mono ?_
    rintro e w4 ⟨vq, vr, rfl, hq, _, hb4⟩
    have hg4 := hg3.ext hb4
    have hC4 := hC3.ext hb4
    have hF4 := hF3.ext hC3 hb4
    have hbw4 := ext_trans hbw3 hb4
    clear hg3 hC3 hF3 hbw3 hb4
    go_wp2_with fail
    refine (over_at d (n.gcd d) _ vg w4 (HU.out.ext hbw4) hg4 hdl hgp).mono ?_
    rintro e w5 ⟨vq2, vr2, rfl, hq2, _, hb5⟩
    have hq5 := hq.ext hb5
    have hC5 := hC4.ext hb5
    have hF5 := hF4.ext hC4 hb5
    have hbw5 := ext_trans hbw4 hb5
    clear hq hC4 hF4 hbw4 hb5 hg4
    -- TAIL2
    have HFIN1 : Hid (n / n.gcd d = n / n.gcd d) := Lib.hid rfl
    have HFIN2 : Hid (d / n.gcd d = d / n.gcd d) := Lib.hid rfl
    obtain ⟨aq, cq, rfl, _⟩ := hq5.open_
    obtain ⟨aq2, cq2, rfl, _⟩ := hq2.open_
    have g0 := hF5 0
    have g1 := hF5 1
    have g2 := hF5 2
    obtain ⟨r0, r1, r2⟩ := boxX hC5
    have hLm : 0 < (digs (n / n.gcd d)).length ↔ 0 < n / n.gcd d := by rw [Nat.pos_iff_ne_zero, Nat.pos_iff_ne_zero]; exact not_congr wlen_eq_zero
    have HLM := Lib.hid hLm
    clear hLm
    cases b
    · obtain ⟨k1, k2, k3, z0, z1, z2⟩ := res3 false hC5 hq5 hq2 hbw5 (Nat.le_refl _)
      have HK := Lib.hid (And.intro k1 (And.intro k2 k3))
      clear k1 k2 k3
      go_wp2
      exact bodyPost_ret (v := .agg #[.bool false, .slice aq (digs (n / n.gcd d)).length cq, .slice aq2 (digs (d / n.gcd d)).length cq2]) (by simp [results, Tryz.results74, go_sem, z0, z1, z2]) rfl ⟨_, _, rfl, HK.out.1, HK.out.2.1, HK.out.2.2⟩
    · by_cases hm : 0 < n / n.gcd d
      · have hl : 0 < (digs (n / n.gcd d)).length := HLM.out.2 hm
        have hd1 : decide (0 < n / n.gcd d) = true := decide_eq_true hm
        have HD := Lib.hid hd1
        obtain ⟨k1, k2, k3, z0, z1, z2⟩ := res3 true hC5 hq5 hq2 hbw5 (Nat.le_refl _)
        have HK := Lib.hid (And.intro k1 (And.intro k2 k3))
        clear k1 k2 k3 hm hd1
        go_wp2
        exact bodyPost_ret (v := .agg #[.bool true, .slice aq (digs (n / n.gcd d)).length cq, .slice aq2 (digs (d / n.gcd d)).length cq2]) (by simp [results, Tryz.results74, go_sem, z0, z1, z2]) rfl ⟨_, _, by rw [HD.out]; rfl, HK.out.1, HK.out.2.1, HK.out.2.2⟩
      · have hl : (digs (n / n.gcd d)).length = 0 := by have := HLM.out; omega
        have hd1 : decide (0 < n / n.gcd d) = false := decide_eq_false hm
        have HD := Lib.hid hd1
        have HL0 := Lib.hid hl
        have hlb : decide ((0 : Int) < ((digs (n / n.gcd d)).length : Int)) = false := by rw [hl]; rfl
        have hlc : decide (0 < (digs (n / n.gcd d)).length) = false := by rw [hl]; rfl
        obtain ⟨k1, k2, k3, z0, z1, z2⟩ := res3 false hC5 hq5 hq2 hbw5 (Nat.le_refl _)
        have HK := Lib.hid (And.intro k1 (And.intro k2 k3))
        clear k1 k2 k3 hm hd1 hl
        go_wp2
        exact bodyPost_ret (v := .agg #[.bool false, .slice aq (digs (n / n.gcd d)).length cq, .slice aq2 (digs (d / n.gcd d)).length cq2]) (by simp [results, Tryz.results74, go_sem, z0, z1, z2]) rfl ⟨_, _, by rw [HD.out]; rfl, HK.out.1, HK.out.2.1, HK.out.2.2⟩
theorem from_at (b : Bool) (n d : Nat) (hd : d ≠ 0) (v u : Value) (w : World) (hn : N w v n) (hu : N w u d) (hnl : wlen n ≤ 1000000000) (hdl : wlen d ≤ 1000000000) :
    Calls Tryz.prog 74 #[.bool b, v, u] w (XPost w (Rat.normalize (sgn b n) d hd)) := by
  refine (from_raw b n d (Nat.pos_of_ne_zero hd) v u w hn hu hnl hdl).mono ?_
  rintro e w' ⟨v1, v2, rfl, h1, h2, hb⟩
  exact ⟨_, rfl, ⟨v1, v2, by rw [norm_neg], by rw [norm_abs]; exact h1, by rw [norm_den]; exact h2⟩, hb⟩
end Nm
end Go.Proofs.YtemenlcigengeaaGreatDoor
namespace Go.Proofs.YtemenlcigengeaaGreatDoor
open Go.RowKit
namespace Nm
theorem from_is (q : Rat) (b : Bool) (n d : Nat) (hd : d ≠ 0) (hq : q = Rat.normalize (sgn b n) d hd) (v u : Value) (w : World) (hn : N w v n) (hu : N w u d) (hnl : wlen n ≤ 1000000000) (hdl : wlen d ≤ 1000000000) :
    Calls Tryz.prog 74 #[.bool b, v, u] w (XPost w q) := by subst hq; exact from_at b n d hd v u w hn hu hnl hdl
set_option maxHeartbeats 8000000 in
theorem xtimes_at (x y : Rat) (v u : Value) (w : World) (hx : XR w v x) (hy : XR w u y) (l1 : wlen x.num.natAbs ≤ 100000000) (l2 : wlen x.den ≤ 100000000) (l3 : wlen y.num.natAbs ≤ 100000000) (l4 : wlen y.den ≤ 100000000) : Calls Tryz.prog 43 #[v, u] w (XPost w (x * y)) := by
  obtain ⟨a1, c1, a2, c2, rfl, h1, h2⟩ := hx.open_
  obtain ⟨a3, c3, a4, c4, rfl, h3, h4⟩ := hy.open_
  have H1 := Lib.hid h1
  have H2 := Lib.hid h2
  have H3 := Lib.hid h3
  have H4 := Lib.hid h4
  have HQ : Hid (x * y = Rat.normalize (sgn (!(decide (x.num < 0) == decide (y.num < 0))) (x.num.natAbs * y.num.natAbs)) (x.den * y.den) (den_pos x y)) := by
    have : x * y = Rat.normalize (sgn (!(decide (x.num < 0) == decide (y.num < 0))) (x.num.natAbs * y.num.natAbs)) (x.den * y.den) (den_pos x y) := by rw [Rat.mul_def]; exact normalize_congr _ _ (mul_sgn x y)
    exact this
  have HW1 := Lib.hid (Nat.le_trans (wlen_mul x.num.natAbs y.num.natAbs) (by omega : _ ≤ 1000000000))
  have HW2 := Lib.hid (Nat.le_trans (wlen_mul x.den y.den) (by omega : _ ≤ 1000000000))
  clear h1 h2 hx h3 h4 hy
  generalize x * y = Z at *
  generalize decide (x.num < 0) = bx at *
  generalize decide (y.num < 0) = by' at *
  have tok1 : True := trivial
  go_enter Tryz.func43, Tryz.ntmps43
  go_upto_region 1 with (fail)
  refine wp_box3r fun W hsz hbW hA hB hC hF => ?_
  go_region_held3 (S2R W (w.heap.size + 2) w.heap.size #[Value.bool bx, Value.slice a1 (digs x.num.natAbs).length c1, Value.slice a2 (digs x.den).length c2] (w.heap.size + 1) #[Value.bool by', Value.slice a3 (digs y.num.natAbs).length c3, Value.slice a4 (digs y.den).length c4]) (first | exact S2R.start hA hB | exact S2R.ext (by with_reducible assumption) (by with_reducible assumption) (by omega) hA hB | exact S2R.set (S2R.set (S2R.set (by assumption) (by simp) (by omega) (by omega)) (by simp) (by omega) (by omega)) (by simp) (by omega) (by omega) | assumption) (first | (have _t := tok1; go_at_call 73; refine (times_at x.num.natAbs y.num.natAbs _ _ _ (H1.out.ext (S2R.low (by assumption) hbW (by omega))) (H3.out.ext (S2R.low (by assumption) hbW (by omega))) (by omega) (by omega)).mono ?_; rintro e w2 ⟨vn, rfl, hvn, hb2⟩; have hc2 := Lib.hid (ext_trans (Below.refl W.heap.size W).drew hb2); have HVN := Lib.hid hvn; clear tok1 hvn) | (go_at_call 73; refine (times_at x.den y.den _ _ _ (H2.out.ext (S2R.low (by assumption) hbW (by omega))) (H4.out.ext (S2R.low (by assumption) hbW (by omega))) (by omega) (by omega)).mono ?_; rintro e w3 ⟨vd, rfl, hvd, hb3⟩; have hc3 := Lib.hid (ext_trans hc2.out hb3); have HVN3 := Lib.hid (HVN.out.ext hb3); have HVD := Lib.hid hvd; clear hvd) | (go_at_call 74; refine (from_is Z _ _ _ (den_pos x y) HQ.out _ _ _ HVN3.out HVD.out HW1.out HW2.out).mono ?_; rintro e w4 ⟨vq, rfl, hq, hb4⟩; obtain ⟨p1, c5, p2, c6, rfl, k1, k2⟩ := hq.open_; have hc4 := Lib.hid (ext_trans hc3.out hb4); have HK1 := Lib.hid k1; have HK2 := Lib.hid k2; obtain ⟨r0, r1, r2⟩ := boxX (hC.ext hc4.out); have g0 := (hF.ext hC hc4.out) 0; have g1 := (hF.ext hC hc4.out) 1; have g2 := (hF.ext hC hc4.out) 2; clear k1 k2 hq))
  obtain ⟨k1, k2, k3, z0, z1, z2⟩ := res3 (decide (Z.num < 0)) (hC.ext hc4.out) HK1.out HK2.out (ext_trans hbW hc4.out) (by omega)
  have HK := Lib.hid (And.intro k1 (And.intro k2 k3))
  clear k1 k2 k3
  go_wp2
  exact bodyPost_ret (v := .agg #[.bool (decide (Z.num < 0)), .slice p1 (digs Z.num.natAbs).length c5, .slice p2 (digs Z.den).length c6]) (by simp [results, Tryz.results43, go_sem, z0, z1, z2]) rfl ⟨_, rfl, ⟨_, _, rfl, HK.out.1, HK.out.2.1⟩, HK.out.2.2⟩
end Nm
end Go.Proofs.YtemenlcigengeaaGreatDoor
namespace Go.Proofs.YtemenlcigengeaaGreatDoor
open Go.RowKit
theorem Sl.keepQ {Q : Value → Prop} {w w' : World} {v r : Value} {n : Nat} {cs : List Value} (h : Sl w v n cs) (hq : ∀ u ∈ cs, ¬ Q u) (hR : RowQ Q w r) (hg : w.grownBy w' r.ownBlock) : Sl w' v n cs := by
  obtain ⟨a, cap, hv, h1, h2, h0, h3⟩ := h
  refine ⟨a, cap, hv, h1, h2, h0, fun i x hx => ?_⟩
  obtain ⟨b, o, ha, hc⟩ := h3 i x hx
  refine ⟨b, o, ha, hg.cell hc (fun e => ?_)⟩
  exact hq x (List.mem_of_getElem? hx) (hR b e.symm _ _ hc)
namespace Nm
def NW (u : Value) : Prop := isWord u = false
theorem N.keepQ {w w' : World} {v r : Value} {n : Nat} (h : N w v n) (hR : RowQ NW w r) (hg : w.grownBy w' r.ownBlock) : N w' v n := by
  refine Sl.keepQ h (fun u hu hw => ?_) hR hg
  simp only [wcs, List.mem_map] at hu
  obtain ⟨c, _, rfl⟩ := hu
  cases hw
theorem XR.keepQ {w w' : World} {v r : Value} {q : Rat} (h : XR w v q) (hR : RowQ NW w r) (hg : w.grownBy w' r.ownBlock) : XR w' v q := by
  obtain ⟨v1, v2, h0, h1, h2⟩ := h; exact ⟨v1, v2, h0, h1.keepQ hR hg, h2.keepQ hR hg⟩
structure BV where
  b : Bool
  a1 : Option Addr
  n1 : Nat
  c1 : Nat
  a2 : Option Addr
  n2 : Nat
  c2 : Nat
def bvL (K : Int) (v : BV) : List Value := [.int .i64 2, .int .i64 K, .bool v.b, .slice v.a1 v.n1 v.c1, .slice v.a2 v.n2 v.c2]
def BvOk (w : World) (K : Nat) (q : Rat) (v : BV) : Prop := Bett w 2 K q v.b v.a1 v.n1 v.c1 v.a2 v.n2 v.c2
theorem BvOk.ext {w w' : World} {K : Nat} {q : Rat} {v : BV} (h : BvOk w K q v) (hb : Below w.heap.size w w') : BvOk w' K q v := Bett.ext h hb
theorem BvOk.keepQ {w w' : World} {K : Nat} {q : Rat} {v : BV} {r : Value} (h : BvOk w K q v) (hR : RowQ NW w r) (hg : w.grownBy w' r.ownBlock) : BvOk w' K q v :=
  ⟨h.d1, h.d3, h.b1, h.b5, XR.keepQ h.need hR hg, h.s1, h.s2⟩
structure RT where
  n : ByteArray
  d : ByteArray
def rtL (r : RT) : List Value := [.string r.n, .string r.d]
def rtOk (r : RT) : Prop := r.n.size ≤ maxLen ∧ r.d.size ≤ maxLen
structure PL (w wr : World) (planA : Array Value) (bM : Nat) (mA : Array Value) (qm : Rat) (base K : Nat) (gs : List RT) (v : Value) (k : Nat) (bvs : List BV) : Prop where
  low : Below w.heap.size w wr
  plan : Box wr w.heap.size planA
  res : Box wr (w.heap.size + 1) (betA 0 0 false none 0 0 none 0 0)
  fre : Fre wr (w.heap.size + 1)
  mis : Box wr bM mA
  xr : XR wr (.agg mA) qm
  own : wr.ownsRow base 70 5 v k (bvs.flatMap (bvL K))
  q : RowQ NW wr v
  len : bvs.length = k
  ok : ∀ (i : Nat) bv r, bvs[i]? = some bv → gs[i]? = some r → BvOk wr K (rQ r.n r.d)⁻¹ bv
  bs : base ≤ wr.heap.size
  lw : w.heap.size + 1 < base
  lm : bM < base
theorem PL.ext {w wr w' : World} {planA : Array Value} {bM : Nat} {mA : Array Value} {qm : Rat} {base K : Nat} {gs : List RT} {v : Value} {k : Nat} {bvs : List BV} (h : PL w wr planA bM mA qm base K gs v k bvs) (hb : Below wr.heap.size wr w') : PL w w' planA bM mA qm base K gs v k bvs :=
  ⟨ext_trans h.low hb, h.plan.ext hb, h.res.ext hb, h.fre.ext h.res hb, h.mis.ext hb, h.xr.ext hb, ownsRow_ext h.own hb, h.q.ext h.own hb, h.len, fun i bv r h1 h2 => (h.ok i bv r h1 h2).ext hb, Nat.le_trans h.bs hb.size, h.lw, h.lm⟩
theorem PL.push {w wr w' : World} {planA : Array Value} {bM : Nat} {mA : Array Value} {qm : Rat} {base K : Nat} {gs : List RT} {v v' : Value} {k : Nat} {bvs : List BV} (h : PL w wr planA bM mA qm base K gs v k bvs) (bv : BV) (hg : wr.grownBy w' v.ownBlock)
    (hown : w'.ownsRow base 70 5 v' (k + 1) (bvs.flatMap (bvL K) ++ bvL K bv)) (hq : RowQ NW w' v') {r : RT} (hr : gs[k]? = some r) (hbv : BvOk wr K (rQ r.n r.d)⁻¹ bv) : PL w w' planA bM mA qm base K gs v' (k + 1) (bvs ++ [bv]) := by
  have lt : ∀ q, v.ownBlock = some q → base ≤ q := fun q e => (h.own.lt q e).1
  have h1 := h.lw
  have h2 := h.lm
  have hne : ∀ x, x < base → ∀ q, v.ownBlock = some q → q ≠ x := fun x hx q e => by have := lt q e; omega
  refine ⟨h.low.grown hg h.low.size (fun q e => by have := lt q e; omega), box_grown hg h.plan (hne _ (by omega)), box_grown hg h.res (hne _ (by omega)), fre_grown h.fre h.res.1 hg (hne _ (by omega)), box_grown hg h.mis (hne _ h2), h.xr.keepQ h.q hg, ?_, hq, by rw [List.length_append, h.len]; rfl, ?_, Nat.le_trans h.bs hg.size, h1, h2⟩
  · rw [List.flatMap_append]; simpa using hown
  · intro i bv' r' e1 e2
    rcases Nat.lt_or_ge i k with hi | hi
    · rw [List.getElem?_append_left (by rw [h.len]; exact hi)] at e1
      exact (h.ok i bv' r' e1 e2).keepQ h.q hg
    · rw [List.getElem?_append_right (by rw [h.len]; exact hi), h.len] at e1
      have hi' : i - k = 0 := by
        rcases Nat.eq_zero_or_pos (i - k) with h0 | h0
        · exact h0
        · rw [List.getElem?_eq_none (by simp; omega)] at e1; cases e1
      rw [hi'] at e1
      obtain rfl : bv = bv' := by simpa using e1
      have hik : i = k := by omega
      subst hik
      rw [hr] at e2
      cases e2
      exact hbv.keepQ h.q hg
end Nm
end Go.Proofs.YtemenlcigengeaaGreatDoor
namespace Go.Proofs.YtemenlcigengeaaGreatDoor
open Go.RowKit
namespace Nm
theorem cmpQ_ge {x y : Rat} : 0 ≤ cmpQ x y ↔ y ≤ x := by
  rw [← Rat.not_lt, ← cmpQ_neg]; omega
end Nm
namespace Nt
open _root_.Go.Proofs.YtemenlcigengeaaGreatDoor.Nm (showN showD Fits show_size ord_show quo_one fits_int cmpQ cmpQ_neg i64_ten)
end Nt
end Go.Proofs.YtemenlcigengeaaGreatDoor
namespace Go.Proofs.YtemenlcigengeaaGreatDoor
namespace Nm

theorem natCast_pos {n : Nat} (h : 0 < n) : (0 : Rat) < ((n : Nat) : Rat) := by
  have := Rat.natCast_lt_natCast.2 h
  exact this
theorem natCast_nonneg (n : Nat) : (0 : Rat) ≤ ((n : Nat) : Rat) := by
  have := (Rat.natCast_le_natCast (a := 0) (b := n)).2 (Nat.zero_le _)
  exact this
end Nm
end Go.Proofs.YtemenlcigengeaaGreatDoor
