/- Broken of package event, and the reference's. -/
import Derived.Test.YtbbfdkjamjmbmaaDoorMissing
namespace Go.Proofs.YtbbfdkjamjmbmaaDoor
open Go.RowKit
theorem ev_info : (Tryd.prog.info? 29).map (fun i => (i.zero, i.size, i.bytes)) = some (some (.agg #[.string { data := #[] }, .int .i64 0, .int .i64 0, .int .i64 0, .string { data := #[] }, .string { data := #[] }, .int .i64 0, .int .i64 0]), 8, 88) := by kernel_rfl
/-- what is promised behind an event, if 'pr' was before it -/
def promise (pr : Int) (e : Ev) : Int := if e.kind = 3 then (if pr < e.time then e.time else pr) else pr
theorem promise_lt {pr : Int} {e : Ev} (h : e.time < pr) : promise pr e = pr := by
  unfold promise
  split
  · rw [if_neg (by omega)]
  · rfl
def promTo (l : List Ev) : Nat → Int
  | 0 => 0
  | k + 1 => match l[k]? with
    | some e => promise (if newAt l k then 0 else promTo l k) e
    | none => 0
def before (l : List Ev) (k : Nat) : Int := if newAt l k then 0 else promTo l k
def brokenTo (l : List Ev) : Nat → List Ev
  | 0 => []
  | k + 1 => brokenTo l k ++ (match l[k]? with
    | some e => if e.time < before l k then [e] else []
    | none => [])
def brokL (l : List Ev) : List Ev := if checkL l = 0 then brokenTo l l.length else []
theorem brok_yes {l : List Ev} {k : Nat} {s : Ev} {p : Int} (h : l[k]? = some s) (hx : before l k = p) (hg : s.time < p) : brokenTo l (k + 1) = brokenTo l k ++ [s] := by
  simp only [brokenTo, h, hx, if_pos hg]
theorem brok_no {l : List Ev} {k : Nat} {s : Ev} {p : Int} (h : l[k]? = some s) (hx : before l k = p) (hg : ¬ s.time < p) : brokenTo l (k + 1) = brokenTo l k := by
  simp only [brokenTo, h, hx, if_neg hg, List.append_nil]
theorem prom_step {l : List Ev} {k : Nat} {s : Ev} {p : Int} (h : l[k]? = some s) (hx : before l k = p) : promTo l (k + 1) = promise p s := by
  simp only [promTo, h]; rw [← hx]; rfl
theorem box_grown {w w' : World} {b : Nat} {A : Array Value} {row : Option Nat} (hg : w.grownBy w' row) (h : Box w b A) (hr : ∀ q, row = some q → q ≠ b) : Box w' b A :=
  ⟨Nat.lt_of_lt_of_le h.1 hg.size, fun j => (World.cell?_of_block (w := w) (hg.block b h.1 (fun e => hr b e.symm rfl))).trans (h.2 j)⟩
def BrokPost (l : List Ev) (w : World) (e : Ending) (w' : World) : Prop :=
  ∃ a cap, e = .returned (.tuple #[.slice a (brokL l).length cap, .int .i64 (checkL l)]) ∧ Sl w' (.slice a (brokL l).length cap) (brokL l).length ((brokL l).flatMap evL) ∧ Below w.heap.size w w'

set_option maxRecDepth 100000 in
set_option maxHeartbeats 16000000 in
theorem event_Broken (l : List Ev) (hok : ∀ e ∈ l, e.ok) (a : Option Addr) (c : Nat) (w : World) (hs : Sl w (.slice a l.length c) l.length (l.flatMap evL)) :
    Calls Tryd.prog 18 #[.slice a l.length c] w (BrokPost l w) := by
  have HI := Lib.hid ev_info
  go_enter Tryd.func18, Tryd.ntmps18
  go_wp2_with fail
  refine (event_CheckLog l hok a c _ hs).mono ?_
  rintro e w1 ⟨rfl, hb1⟩
  by_cases hc : checkL l = 0
  · have hne : (checkL l != 0) = false := by simp [hc]
    obtain ⟨hck, hlen, _⟩ := check_ok hc
    have HC := Lib.hid hc
    have HCK := Lib.hid hck
    clear hc hck hok
    go_wp2
    go_loopw [5, 6, 16] (fun v t i wr => ∃ k n : Nat, k ≤ l.length ∧ n ≤ k ∧ i = .int .i64 k ∧ t = .int .i64 (promTo l k) ∧ wr.ownsRow w1.heap.size 29 8 v n ((brokenTo l k).flatMap evL) ∧ Hid ((brokenTo l k).length = n) ∧ Below w1.heap.size w1 wr) (fun _ _ i _ => l.length - (intOf i).toNat)
    case atStart => exact ⟨0, 0, by omega, by omega, rfl, rfl, World.ownsRow_nil _ _ _ _, rfl, Below.refl _ _⟩
    case round =>
      obtain ⟨k, n, hk, hnk, rfl, rfl, hown, HN, hb⟩ := hrel
      by_cases hlt : k < l.length
      · have hgk := List.getElem?_eq_getElem hlt
        obtain ⟨_, _, ht1, ht2⟩ := number_ok (HCK.out l[k] (List.getElem_mem _))
        generalize l[k] = s at hgk ht1 ht2
        obtain ⟨b, o, rfl, e0, e1, e2, e3, e4, e5, e6, e7⟩ := ev_cells (hs.ext (ext_trans hb1 hb)) hgk
        have hb0 : ∀ q, u5.ownBlock = some q → w1.heap.size ≤ q := fun q hq => (hown.lt q hq).1
        have hbl : ∀ q, u5.ownBlock = some q → q < wr.heap.size := fun q hq => (hown.lt q hq).2
        have HB0 := Lib.hid hb0
        have HBL := Lib.hid hbl
        have HGK := Lib.hid hgk
        clear hb0 hgk hbl
        go_upto_region 9 with (fail)
        clear e0 e1 e2 e3 e4 e5 e6 e7
        refine wp_box1 fun X hszX hbX hX => ?_
        have hbx := ext_trans hb hbX
        have hownX := ownsRow_ext hown hbX
        have hszx := hbx.size
        have g0 := hX.2 0
        have g1 := hX.2 1
        have g2 := hX.2 2
        have g3 := hX.2 3
        have g4 := hX.2 4
        have g5 := hX.2 5
        have g6 := hX.2 6
        have g7 := hX.2 7
        clear hszX hown hb hbX
        by_cases h0 : k = 0
        · subst h0
          have HX : Hid (before l 0 = 0) := rfl
          have HPS := Lib.hid (prom_step HGK.out HX.out)
          go_quiet (fail)
          by_cases hg : s.time < 0
          · exfalso; omega
          · have HG : Hid (brokenTo l (0 + 1) = brokenTo l (0)) := brok_no HGK.out HX.out hg
            have hown8 : (X.drewN nq).ownsRow w1.heap.size 29 8 u5 n ((brokenTo l (0 + 1)).flatMap evL) := by rw [HG.out]; exact ownsRow_ext hownX (below_drewN (Below.refl _ _) nq)
            have hb8 := ext_trans hbx (below_drewN (Below.refl _ _) nq)
            have HN3 : Hid ((brokenTo l (0 + 1)).length = n) := by rw [HG.out]; exact HN
            by_cases hk3 : (s.kind == 3) = true
            · by_cases hm : 0 < s.time
              · have HM := Lib.hid hm
                have HPR : Hid (promTo l (0 + 1) = s.time) := by
                  have : promTo l (0 + 1) = s.time := by rw [HPS.out]; unfold promise; rw [if_pos (by simpa using hk3), if_pos HM.out]
                  exact this
                go_wp2
                go_roundw
                case rel => exact ⟨0 + 1, n, by omega, by omega, by go_num, by rw [HPR.out], hown8, HN3, hb8⟩
                case measure => simp [intOf]; omega
              · have HM := Lib.hid hm
                have HPR : Hid (promTo l (0 + 1) = 0) := by
                  have : promTo l (0 + 1) = 0 := by rw [HPS.out]; unfold promise; rw [if_pos (by simpa using hk3), if_neg HM.out]
                  exact this
                go_wp2
                go_roundw
                case rel => exact ⟨0 + 1, n, by omega, by omega, by go_num, by rw [HPR.out], hown8, HN3, hb8⟩
                case measure => simp [intOf]; omega
            · have hk3' : (s.kind == 3) = false := by simpa using hk3
              clear hk3
              have HPR : Hid (promTo l (0 + 1) = 0) := by
                have : promTo l (0 + 1) = 0 := by rw [HPS.out]; unfold promise; rw [if_neg (by simpa using hk3')]
                exact this
              go_wp2
              go_roundw
              case rel => exact ⟨0 + 1, n, by omega, by omega, by go_num, by rw [HPR.out], hown8, HN3, hb8⟩
              case measure => simp [intOf]; omega
        · obtain ⟨j, rfl⟩ : ∃ j, k = j + 1 := ⟨k - 1, by omega⟩
          have hgj := List.getElem?_eq_getElem (show j < l.length by omega)
          have hnew : newAt l (j + 1) = decide (s.shard ≠ (l[j]).shard) := by rw [newAt, hgj, HGK.out]; simp
          generalize l[j] = s' at hgj hnew
          obtain ⟨b', o', hb', f0, _⟩ := ev_cells (hs.ext (ext_trans hb1 hbx)) hgj
          cases hb'
          have hj0 : (0 : Int) ≤ (j : Int) := Int.natCast_nonneg _
          have hj1 : (j : Int) < (l.length : Int) := by omega
          have hne0 : ((j : Int) + 1 == 0) = false := by simp; omega
          have hwj : IntKind.i64.wrap (j : Int) = (j : Int) := IntWalk.i64_in _ (by omega)
          clear hgj h0
          by_cases hq : s.shard = s'.shard
          · have hq1 : (s'.shard.toList == s.shard.toList) = true := by rw [hq]; simp
            have hbe : before l (j + 1) = promTo l (j + 1) := by unfold before; rw [hnew]; simp [hq]
            generalize promTo l (j + 1) = pr at hbe ⊢
            have HX := Lib.hid hbe
            have HPS := Lib.hid (prom_step HGK.out hbe)
            clear hq hnew hbe
            go_quiet (fail)
            clear hwj hne0
            by_cases hg : s.time < pr
            · have HG : Hid (brokenTo l (j + 1 + 1) = brokenTo l (j + 1) ++ [s]) := brok_yes HGK.out HX.out hg
              go_wp2_with (at_builtin; refine wpList_append_sl rfl _ _ 22 rfl w1.heap.size 29 Tryd.underlying22 HI.out rfl (by decide) rfl (ownsRow_ext (ownsRow_ext hownX (below_drewN (Below.refl _ _) nq)) (ext_alloc _ _)) rfl (Sl.new _ (evC s) _ 1 1 (by omega) (by decide)) rfl (by intro u hu; simp at hu; rcases hu with rfl | rfl | rfl | rfl | rfl | rfl | rfl | rfl <;> rfl) (by unfold maxLen; omega) (by omega) (by simp; omega) ?_; intro v7 w7 hown7 hg7 _; have hX8 := Lib.hid (box_grown hg7 (Box.ext (Box.ext hX (below_drewN (Below.refl _ _) nq)) (ext_alloc _ _)) (fun q hq => by have := HBL.out q hq; omega)); have y2 := hX8.out.2 2; have y3 := hX8.out.2 3; have hb8 := Lib.hid ((ext_trans (ext_trans hbx (below_drewN (Below.refl _ _) nq)) (ext_alloc _ _)).grown hg7 (by simp; omega) (fun q hq => HB0.out q hq)); have hown8 := Lib.hid hown7; clear hown7 hg7)
              all_goals have hown9 : w7.ownsRow w1.heap.size 29 8 v7 (n + 1) ((brokenTo l (j + 1 + 1)).flatMap evL) := by rw [HG.out, List.flatMap_append]; simpa [evL] using hown8.out
              all_goals have HN3 : Hid ((brokenTo l (j + 1 + 1)).length = n + 1) := by have h1 := HN.out; exact (by rw [HG.out, List.length_append, h1]; rfl : (brokenTo l (j + 1 + 1)).length = n + 1)
              all_goals exact ⟨⟨j + 1 + 1, n + 1, by omega, by omega, by go_num, by rw [HPS.out, promise_lt hg], hown9, HN3, hb8.out⟩, by simp [intOf]; omega⟩
            · have HG : Hid (brokenTo l (j + 1 + 1) = brokenTo l (j + 1)) := brok_no HGK.out HX.out hg
              have hown8 : (X.drewN nq).ownsRow w1.heap.size 29 8 u5 n ((brokenTo l (j + 1 + 1)).flatMap evL) := by rw [HG.out]; exact ownsRow_ext hownX (below_drewN (Below.refl _ _) nq)
              have hb8 := ext_trans hbx (below_drewN (Below.refl _ _) nq)
              have HN3 : Hid ((brokenTo l (j + 1 + 1)).length = n) := by rw [HG.out]; exact HN
              by_cases hk3 : (s.kind == 3) = true
              · by_cases hm : pr < s.time
                · have HM := Lib.hid hm
                  have HPR : Hid (promTo l (j + 1 + 1) = s.time) := by
                    have : promTo l (j + 1 + 1) = s.time := by rw [HPS.out]; unfold promise; rw [if_pos (by simpa using hk3), if_pos HM.out]
                    exact this
                  go_wp2
                  go_roundw
                  case rel => exact ⟨j + 1 + 1, n, by omega, by omega, by go_num, by rw [HPR.out], hown8, HN3, hb8⟩
                  case measure => simp [intOf]; omega
                · have HM := Lib.hid hm
                  have HPR : Hid (promTo l (j + 1 + 1) = pr) := by
                    have : promTo l (j + 1 + 1) = pr := by rw [HPS.out]; unfold promise; rw [if_pos (by simpa using hk3), if_neg HM.out]
                    exact this
                  go_wp2
                  go_roundw
                  case rel => exact ⟨j + 1 + 1, n, by omega, by omega, by go_num, by rw [HPR.out], hown8, HN3, hb8⟩
                  case measure => simp [intOf]; omega
              · have hk3' : (s.kind == 3) = false := by simpa using hk3
                clear hk3
                have HPR : Hid (promTo l (j + 1 + 1) = pr) := by
                  have : promTo l (j + 1 + 1) = pr := by rw [HPS.out]; unfold promise; rw [if_neg (by simpa using hk3')]
                  exact this
                go_wp2
                go_roundw
                case rel => exact ⟨j + 1 + 1, n, by omega, by omega, by go_num, by rw [HPR.out], hown8, HN3, hb8⟩
                case measure => simp [intOf]; omega
          · have hq1 : (s'.shard.toList == s.shard.toList) = false := by
              simp only [beq_eq_false_iff_ne, ne_eq, ByteArray.toList_eq]; exact fun h => hq (bytes_ext h).symm
            have HX : Hid (before l (j + 1) = 0) := by
              have : before l (j + 1) = 0 := by unfold before; rw [hnew]; simp [hq]
              exact this
            have HPS := Lib.hid (prom_step HGK.out HX.out)
            clear hq hnew
            go_quiet (fail)
            clear hwj hne0
            by_cases hg : s.time < 0
            · exfalso; omega
            · have HG : Hid (brokenTo l (j + 1 + 1) = brokenTo l (j + 1)) := brok_no HGK.out HX.out hg
              have hown8 : (X.drewN nq).ownsRow w1.heap.size 29 8 u5 n ((brokenTo l (j + 1 + 1)).flatMap evL) := by rw [HG.out]; exact ownsRow_ext hownX (below_drewN (Below.refl _ _) nq)
              have hb8 := ext_trans hbx (below_drewN (Below.refl _ _) nq)
              have HN3 : Hid ((brokenTo l (j + 1 + 1)).length = n) := by rw [HG.out]; exact HN
              by_cases hk3 : (s.kind == 3) = true
              · by_cases hm : 0 < s.time
                · have HM := Lib.hid hm
                  have HPR : Hid (promTo l (j + 1 + 1) = s.time) := by
                    have : promTo l (j + 1 + 1) = s.time := by rw [HPS.out]; unfold promise; rw [if_pos (by simpa using hk3), if_pos HM.out]
                    exact this
                  go_wp2
                  go_roundw
                  case rel => exact ⟨j + 1 + 1, n, by omega, by omega, by go_num, by rw [HPR.out], hown8, HN3, hb8⟩
                  case measure => simp [intOf]; omega
                · have HM := Lib.hid hm
                  have HPR : Hid (promTo l (j + 1 + 1) = 0) := by
                    have : promTo l (j + 1 + 1) = 0 := by rw [HPS.out]; unfold promise; rw [if_pos (by simpa using hk3), if_neg HM.out]
                    exact this
                  go_wp2
                  go_roundw
                  case rel => exact ⟨j + 1 + 1, n, by omega, by omega, by go_num, by rw [HPR.out], hown8, HN3, hb8⟩
                  case measure => simp [intOf]; omega
              · have hk3' : (s.kind == 3) = false := by simpa using hk3
                clear hk3
                have HPR : Hid (promTo l (j + 1 + 1) = 0) := by
                  have : promTo l (j + 1 + 1) = 0 := by rw [HPS.out]; unfold promise; rw [if_neg (by simpa using hk3')]
                  exact this
                go_wp2
                go_roundw
                case rel => exact ⟨j + 1 + 1, n, by omega, by omega, by go_num, by rw [HPR.out], hown8, HN3, hb8⟩
                case measure => simp [intOf]; omega
      · have hkl : k = l.length := by omega
        have HL : Hid (brokL l = brokenTo l k) := by
          have : brokL l = brokenTo l k := by unfold brokL; rw [if_pos HC.out, hkl]
          exact this
        clear hkl
        obtain ⟨a3, c3, rfl, _⟩ := Sl.ofOwn hown
        go_wp2
        go_ret2
        refine ⟨a3, c3, ?_, ?_, ext_trans hb1 hb⟩
        · rw [HL.out, HN.out, HC.out]; rfl
        · rw [HL.out, HN.out]; exact Sl.ofOwn hown
  · have hne : (checkL l != 0) = true := by simp [hc]
    have HL : Hid (brokL l = []) := by
      have : brokL l = [] := by unfold brokL; rw [if_neg hc]
      exact this
    clear hc hok
    go_wp2
    go_ret2
    refine ⟨none, 0, ?_, ?_, hb1⟩
    · rw [HL.out]; rfl
    · rw [HL.out]; exact Sl.nil _

end Go.Proofs.YtbbfdkjamjmbmaaDoor
