/- Broken of package event, and the reference's. checkShards of package event, and the reference's. knownOf and known of the reference. What event.known reckons is what the reference's knownOf reckons: plain. -/
import Derived.Test.YtacchooggifnhaaDoorCl01
namespace Go.Proofs.YtacchooggifnhaaDoor
open Go.RowKit
theorem ev_info : (Tryd.prog.info? 43).map (fun i => (i.zero, i.size, i.bytes)) = some (some (.agg #[.string { data := #[] }, .int .i64 0, .int .i64 0, .int .i64 0, .string { data := #[] }, .string { data := #[] }, .int .i64 0, .int .i64 0]), 8, 88) := by kernel_rfl
/-- what is promised behind an event, if 'pr' was before it -/
def promise (pr : Int) (e : Ev) : Int := if e.kind = 3 then (if pr < e.time then e.time else pr) else pr
theorem promise_lt {pr : Int} {e : Ev} (h : e.time < pr) : promise pr e = pr := by
  unfold promise
  split
  · rw [if_neg (by omega)]
  · rfl
def promTo (l : List Ev) : Nat → Int
  | 0 => 0
  | k + 1 => match l[k]? with
    | some e => promise (if newAt l k then 0 else promTo l k) e
    | none => 0
def before (l : List Ev) (k : Nat) : Int := if newAt l k then 0 else promTo l k
def brokenTo (l : List Ev) : Nat → List Ev
  | 0 => []
  | k + 1 => brokenTo l k ++ (match l[k]? with
    | some e => if e.time < before l k then [e] else []
    | none => [])
def brokL (l : List Ev) : List Ev := if checkL l = 0 then brokenTo l l.length else []
theorem brok_yes {l : List Ev} {k : Nat} {s : Ev} {p : Int} (h : l[k]? = some s) (hx : before l k = p) (hg : s.time < p) : brokenTo l (k + 1) = brokenTo l k ++ [s] := by
  simp only [brokenTo, h, hx, if_pos hg]
theorem brok_no {l : List Ev} {k : Nat} {s : Ev} {p : Int} (h : l[k]? = some s) (hx : before l k = p) (hg : ¬ s.time < p) : brokenTo l (k + 1) = brokenTo l k := by
  simp only [brokenTo, h, hx, if_neg hg, List.append_nil]
theorem prom_step {l : List Ev} {k : Nat} {s : Ev} {p : Int} (h : l[k]? = some s) (hx : before l k = p) : promTo l (k + 1) = promise p s := by
  simp only [promTo, h]; rw [← hx]; rfl
theorem box_grown {w w' : World} {b : Nat} {A : Array Value} {row : Option Nat} (hg : w.grownBy w' row) (h : Box w b A) (hr : ∀ q, row = some q → q ≠ b) : Box w' b A :=
  ⟨Nat.lt_of_lt_of_le h.1 hg.size, fun j => (World.cell?_of_block (w := w) (hg.block b h.1 (fun e => hr b e.symm rfl))).trans (h.2 j)⟩
def BrokPost (l : List Ev) (w : World) (e : Ending) (w' : World) : Prop :=
  ∃ a cap, e = .returned (.tuple #[.slice a (brokL l).length cap, .int .i64 (checkL l)]) ∧ Sl w' (.slice a (brokL l).length cap) (brokL l).length ((brokL l).flatMap evL) ∧ Below w.heap.size w w'

set_option maxRecDepth 100000 in
set_option maxHeartbeats 16000000 in
theorem event_Broken (l : List Ev) (hok : ∀ e ∈ l, e.ok) (a : Option Addr) (c : Nat) (w : World) (hs : Sl w (.slice a l.length c) l.length (l.flatMap evL)) :
    Calls Tryd.prog 19 #[.slice a l.length c] w (BrokPost l w) := by
  have HI := Lib.hid ev_info
  go_enter Tryd.func19, Tryd.ntmps19
  go_wp2_with fail
  refine (event_CheckLog l hok a c _ hs).mono ?_
  rintro e w1 ⟨rfl, hb1⟩
  by_cases hc : checkL l = 0
  · have hne : (checkL l != 0) = false := by simp [hc]
    obtain ⟨hck, hlen, _⟩ := check_ok hc
    have HC := Lib.hid hc
    have HCK := Lib.hid hck
    clear hc hck hok
    go_wp2
    go_loopw [5, 6, 16] (fun v t i wr => ∃ k n : Nat, k ≤ l.length ∧ n ≤ k ∧ i = .int .i64 k ∧ t = .int .i64 (promTo l k) ∧ wr.ownsRow w1.heap.size 43 8 v n ((brokenTo l k).flatMap evL) ∧ Hid ((brokenTo l k).length = n) ∧ Below w1.heap.size w1 wr) (fun _ _ i _ => l.length - (intOf i).toNat)
    case atStart => exact ⟨0, 0, by omega, by omega, rfl, rfl, World.ownsRow_nil _ _ _ _, rfl, Below.refl _ _⟩
    case round =>
      obtain ⟨k, n, hk, hnk, rfl, rfl, hown, HN, hb⟩ := hrel
      by_cases hlt : k < l.length
      · have hgk := List.getElem?_eq_getElem hlt
        obtain ⟨_, _, ht1, ht2⟩ := number_ok (HCK.out l[k] (List.getElem_mem _))
        generalize l[k] = s at hgk ht1 ht2
        obtain ⟨b, o, rfl, e0, e1, e2, e3, e4, e5, e6, e7⟩ := ev_cells (hs.ext (ext_trans hb1 hb)) hgk
        have hb0 : ∀ q, u5.ownBlock = some q → w1.heap.size ≤ q := fun q hq => (hown.lt q hq).1
        have hbl : ∀ q, u5.ownBlock = some q → q < wr.heap.size := fun q hq => (hown.lt q hq).2
        have HB0 := Lib.hid hb0
        have HBL := Lib.hid hbl
        have HGK := Lib.hid hgk
        clear hb0 hgk hbl
        go_upto_region 9 with (fail)
        clear e0 e1 e2 e3 e4 e5 e6 e7
        refine wp_box1 fun X hszX hbX hX => ?_
        have hbx := ext_trans hb hbX
        have hownX := ownsRow_ext hown hbX
        have hszx := hbx.size
        have g0 := hX.2 0
        have g1 := hX.2 1
        have g2 := hX.2 2
        have g3 := hX.2 3
        have g4 := hX.2 4
        have g5 := hX.2 5
        have g6 := hX.2 6
        have g7 := hX.2 7
        clear hszX hown hb hbX
        by_cases h0 : k = 0
        · subst h0
          have HX : Hid (before l 0 = 0) := rfl
          have HPS := Lib.hid (prom_step HGK.out HX.out)
          go_quiet (fail)
          by_cases hg : s.time < 0
          · exfalso; omega
          · have HG : Hid (brokenTo l (0 + 1) = brokenTo l (0)) := brok_no HGK.out HX.out hg
            have hown8 : (X.drewN nq).ownsRow w1.heap.size 43 8 u5 n ((brokenTo l (0 + 1)).flatMap evL) := by rw [HG.out]; exact ownsRow_ext hownX (below_drewN (Below.refl _ _) nq)
            have hb8 := ext_trans hbx (below_drewN (Below.refl _ _) nq)
            have HN3 : Hid ((brokenTo l (0 + 1)).length = n) := by rw [HG.out]; exact HN
            by_cases hk3 : (s.kind == 3) = true
            · by_cases hm : 0 < s.time
              · have HM := Lib.hid hm
                have HPR : Hid (promTo l (0 + 1) = s.time) := by
                  have : promTo l (0 + 1) = s.time := by rw [HPS.out]; unfold promise; rw [if_pos (by simpa using hk3), if_pos HM.out]
                  exact this
                go_wp2
                go_roundw
                case rel => exact ⟨0 + 1, n, by omega, by omega, by go_num, by rw [HPR.out], hown8, HN3, hb8⟩
                case measure => simp [intOf]; omega
              · have HM := Lib.hid hm
                have HPR : Hid (promTo l (0 + 1) = 0) := by
                  have : promTo l (0 + 1) = 0 := by rw [HPS.out]; unfold promise; rw [if_pos (by simpa using hk3), if_neg HM.out]
                  exact this
                go_wp2
                go_roundw
                case rel => exact ⟨0 + 1, n, by omega, by omega, by go_num, by rw [HPR.out], hown8, HN3, hb8⟩
                case measure => simp [intOf]; omega
            · have hk3' : (s.kind == 3) = false := by simpa using hk3
              clear hk3
              have HPR : Hid (promTo l (0 + 1) = 0) := by
                have : promTo l (0 + 1) = 0 := by rw [HPS.out]; unfold promise; rw [if_neg (by simpa using hk3')]
                exact this
              go_wp2
              go_roundw
              case rel => exact ⟨0 + 1, n, by omega, by omega, by go_num, by rw [HPR.out], hown8, HN3, hb8⟩
              case measure => simp [intOf]; omega
        · obtain ⟨j, rfl⟩ : ∃ j, k = j + 1 := ⟨k - 1, by omega⟩
          have hgj := List.getElem?_eq_getElem (show j < l.length by omega)
          have hnew : newAt l (j + 1) = decide (s.shard ≠ (l[j]).shard) := by rw [newAt, hgj, HGK.out]; simp
          generalize l[j] = s' at hgj hnew
          obtain ⟨b', o', hb', f0, _⟩ := ev_cells (hs.ext (ext_trans hb1 hbx)) hgj
          cases hb'
          have hj0 : (0 : Int) ≤ (j : Int) := Int.natCast_nonneg _
          have hj1 : (j : Int) < (l.length : Int) := by omega
          have hne0 : ((j : Int) + 1 == 0) = false := by simp; omega
          have hwj : IntKind.i64.wrap (j : Int) = (j : Int) := IntWalk.i64_in _ (by omega)
          clear hgj h0
          by_cases hq : s.shard = s'.shard
          · have hq1 : (s'.shard.toList == s.shard.toList) = true := by rw [hq]; simp
            have hbe : before l (j + 1) = promTo l (j + 1) := by unfold before; rw [hnew]; simp [hq]
            generalize promTo l (j + 1) = pr at hbe ⊢
            have HX := Lib.hid hbe
            have HPS := Lib.hid (prom_step HGK.out hbe)
            clear hq hnew hbe
            go_quiet (fail)
            clear hwj hne0
            by_cases hg : s.time < pr
            · have HG : Hid (brokenTo l (j + 1 + 1) = brokenTo l (j + 1) ++ [s]) := brok_yes HGK.out HX.out hg
              go_wp2_with (at_builtin; refine wpList_append_sl rfl _ _ 22 rfl w1.heap.size 43 Tryd.underlying22 HI.out rfl (by decide) rfl (ownsRow_ext (ownsRow_ext hownX (below_drewN (Below.refl _ _) nq)) (ext_alloc _ _)) rfl (Sl.new _ (evC s) _ 1 1 (by omega) (by decide)) rfl (by intro u hu; simp at hu; rcases hu with rfl | rfl | rfl | rfl | rfl | rfl | rfl | rfl <;> rfl) (by unfold maxLen; omega) (by omega) (by simp; omega) ?_; intro v7 w7 hown7 hg7 _; have hX8 := Lib.hid (box_grown hg7 (Box.ext (Box.ext hX (below_drewN (Below.refl _ _) nq)) (ext_alloc _ _)) (fun q hq => by have := HBL.out q hq; omega)); have y2 := hX8.out.2 2; have y3 := hX8.out.2 3; have hb8 := Lib.hid ((ext_trans (ext_trans hbx (below_drewN (Below.refl _ _) nq)) (ext_alloc _ _)).grown hg7 (by simp; omega) (fun q hq => HB0.out q hq)); have hown8 := Lib.hid hown7; clear hown7 hg7)
              all_goals have hown9 : w7.ownsRow w1.heap.size 43 8 v7 (n + 1) ((brokenTo l (j + 1 + 1)).flatMap evL) := by rw [HG.out, List.flatMap_append]; simpa [evL] using hown8.out
              all_goals have HN3 : Hid ((brokenTo l (j + 1 + 1)).length = n + 1) := by have h1 := HN.out; exact (by rw [HG.out, List.length_append, h1]; rfl : (brokenTo l (j + 1 + 1)).length = n + 1)
              all_goals exact ⟨⟨j + 1 + 1, n + 1, by omega, by omega, by go_num, by rw [HPS.out, promise_lt hg], hown9, HN3, hb8.out⟩, by simp [intOf]; omega⟩
            · have HG : Hid (brokenTo l (j + 1 + 1) = brokenTo l (j + 1)) := brok_no HGK.out HX.out hg
              have hown8 : (X.drewN nq).ownsRow w1.heap.size 43 8 u5 n ((brokenTo l (j + 1 + 1)).flatMap evL) := by rw [HG.out]; exact ownsRow_ext hownX (below_drewN (Below.refl _ _) nq)
              have hb8 := ext_trans hbx (below_drewN (Below.refl _ _) nq)
              have HN3 : Hid ((brokenTo l (j + 1 + 1)).length = n) := by rw [HG.out]; exact HN
              by_cases hk3 : (s.kind == 3) = true
              · by_cases hm : pr < s.time
                · have HM := Lib.hid hm
                  have HPR : Hid (promTo l (j + 1 + 1) = s.time) := by
                    have : promTo l (j + 1 + 1) = s.time := by rw [HPS.out]; unfold promise; rw [if_pos (by simpa using hk3), if_pos HM.out]
                    exact this
                  go_wp2
                  go_roundw
                  case rel => exact ⟨j + 1 + 1, n, by omega, by omega, by go_num, by rw [HPR.out], hown8, HN3, hb8⟩
                  case measure => simp [intOf]; omega
                · have HM := Lib.hid hm
                  have HPR : Hid (promTo l (j + 1 + 1) = pr) := by
                    have : promTo l (j + 1 + 1) = pr := by rw [HPS.out]; unfold promise; rw [if_pos (by simpa using hk3), if_neg HM.out]
                    exact this
                  go_wp2
                  go_roundw
                  case rel => exact ⟨j + 1 + 1, n, by omega, by omega, by go_num, by rw [HPR.out], hown8, HN3, hb8⟩
                  case measure => simp [intOf]; omega
              · have hk3' : (s.kind == 3) = false := by simpa using hk3
                clear hk3
                have HPR : Hid (promTo l (j + 1 + 1) = pr) := by
                  have : promTo l (j + 1 + 1) = pr := by rw [HPS.out]; unfold promise; rw [if_neg (by simpa using hk3')]
                  exact this
                go_wp2
                go_roundw
                case rel => exact ⟨j + 1 + 1, n, by omega, by omega, by go_num, by rw [HPR.out], hown8, HN3, hb8⟩
                case measure => simp [intOf]; omega
          · have hq1 : (s'.shard.toList == s.shard.toList) = false := by
              simp only [beq_eq_false_iff_ne, ne_eq, ByteArray.toList_eq]; exact fun h => hq (bytes_ext h).symm
            have HX : Hid (before l (j + 1) = 0) := by
              have : before l (j + 1) = 0 := by unfold before; rw [hnew]; simp [hq]
              exact this
            have HPS := Lib.hid (prom_step HGK.out HX.out)
            clear hq hnew
            go_quiet (fail)
            clear hwj hne0
            by_cases hg : s.time < 0
            · exfalso; omega
            · have HG : Hid (brokenTo l (j + 1 + 1) = brokenTo l (j + 1)) := brok_no HGK.out HX.out hg
              have hown8 : (X.drewN nq).ownsRow w1.heap.size 43 8 u5 n ((brokenTo l (j + 1 + 1)).flatMap evL) := by rw [HG.out]; exact ownsRow_ext hownX (below_drewN (Below.refl _ _) nq)
              have hb8 := ext_trans hbx (below_drewN (Below.refl _ _) nq)
              have HN3 : Hid ((brokenTo l (j + 1 + 1)).length = n) := by rw [HG.out]; exact HN
              by_cases hk3 : (s.kind == 3) = true
              · by_cases hm : 0 < s.time
                · have HM := Lib.hid hm
                  have HPR : Hid (promTo l (j + 1 + 1) = s.time) := by
                    have : promTo l (j + 1 + 1) = s.time := by rw [HPS.out]; unfold promise; rw [if_pos (by simpa using hk3), if_pos HM.out]
                    exact this
                  go_wp2
                  go_roundw
                  case rel => exact ⟨j + 1 + 1, n, by omega, by omega, by go_num, by rw [HPR.out], hown8, HN3, hb8⟩
                  case measure => simp [intOf]; omega
                · have HM := Lib.hid hm
                  have HPR : Hid (promTo l (j + 1 + 1) = 0) := by
                    have : promTo l (j + 1 + 1) = 0 := by rw [HPS.out]; unfold promise; rw [if_pos (by simpa using hk3), if_neg HM.out]
                    exact this
                  go_wp2
                  go_roundw
                  case rel => exact ⟨j + 1 + 1, n, by omega, by omega, by go_num, by rw [HPR.out], hown8, HN3, hb8⟩
                  case measure => simp [intOf]; omega
              · have hk3' : (s.kind == 3) = false := by simpa using hk3
                clear hk3
                have HPR : Hid (promTo l (j + 1 + 1) = 0) := by
                  have : promTo l (j + 1 + 1) = 0 := by rw [HPS.out]; unfold promise; rw [if_neg (by simpa using hk3')]
                  exact this
                go_wp2
                go_roundw
                case rel => exact ⟨j + 1 + 1, n, by omega, by omega, by go_num, by rw [HPR.out], hown8, HN3, hb8⟩
                case measure => simp [intOf]; omega
      · have hkl : k = l.length := by omega
        have HL : Hid (brokL l = brokenTo l k) := by
          have : brokL l = brokenTo l k := by unfold brokL; rw [if_pos HC.out, hkl]
          exact this
        clear hkl
        obtain ⟨a3, c3, rfl, _⟩ := Sl.ofOwn hown
        go_wp2
        go_ret2
        refine ⟨a3, c3, ?_, ?_, ext_trans hb1 hb⟩
        · rw [HL.out, HN.out, HC.out]; rfl
        · rw [HL.out, HN.out]; exact Sl.ofOwn hown
  · have hne : (checkL l != 0) = true := by simp [hc]
    have HL : Hid (brokL l = []) := by
      have : brokL l = [] := by unfold brokL; rw [if_neg hc]
      exact this
    clear hc hok
    go_wp2
    go_ret2
    refine ⟨none, 0, ?_, ?_, hb1⟩
    · rw [HL.out]; rfl
    · rw [HL.out]; exact Sl.nil _

end Go.Proofs.YtacchooggifnhaaDoor
namespace Go.Proofs.YtacchooggifnhaaDoor
open Go.RowKit
def scanS : Option ByteArray → List ByteArray → Int
  | _, [] => 0
  | p, s :: r => if nameB s.data.toList = false then 5 else if (match p with | none => false | some q => decide (cmpS s q ≤ 0)) = true then 8 else scanS (some s) r
def checkSh (L : List ByteArray) : Int := if L.length = 0 then 9 else if 50 < L.length then 2 else scanS none L
def prevS (l : List ByteArray) : Nat → Option ByteArray
  | 0 => none
  | k + 1 => l[k]?
theorem drop_nil {α : Type} (l : List α) (k : Nat) (h : l.length ≤ k) : l.drop k = [] := List.drop_eq_nil_of_le h
theorem scanS_step (p : Option ByteArray) {l : List ByteArray} {k : Nat} {s : ByteArray} (h : l[k]? = some s) : scanS p (l.drop k) = if nameB s.data.toList = false then 5 else if (match p with | none => false | some q => decide (cmpS s q ≤ 0)) = true then 8 else scanS (some s) (l.drop (k + 1)) := by
  obtain ⟨hk, rfl⟩ := List.getElem?_eq_some_iff.1 h
  rw [List.drop_eq_getElem_cons hk]; rfl
/-- a string out of a slice of strings -/
theorem str_cell {w : World} {a : Option Addr} {n c k : Nat} {l : List ByteArray} {x : ByteArray} (s : Sl w (.slice a n c) n (l.map Value.string)) (h : l[k]? = some x) :
    ∃ b o, a = some ⟨b, o, none⟩ ∧ w.cell? ⟨b, o + k, none⟩ = some (.string x) := by
  obtain ⟨a', cap, hv, _, _, _, h3⟩ := s
  obtain ⟨rfl, _, _⟩ : a = a' ∧ True ∧ True := by cases hv; exact ⟨rfl, trivial, trivial⟩
  obtain ⟨b, o, rfl, hc⟩ := h3 k (.string x) (by rw [List.getElem?_map, h]; rfl)
  exact ⟨b, o, rfl, hc⟩
theorem leq_of (a b : ByteArray) : (Op.bytesLess a.toList b.toList || a.toList == b.toList) = decide (cmpS a b ≤ 0) := by
  rw [less_of, beq_of, Bool.eq_iff_iff]
  have := cmpS_tri a b
  simp only [Bool.or_eq_true, decide_eq_true_eq]
  omega

set_option maxHeartbeats 8000000 in
theorem event_checkShards (L : List ByteArray) (hok : ∀ s ∈ L, s.size ≤ maxLen) (a : Option Addr) (c : Nat) (w : World) (hs : Sl w (.slice a L.length c) L.length (L.map Value.string)) :
    Calls Tryd.prog 12 #[.slice a L.length c] w fun e w' => e = .returned (.int .i64 (checkSh L)) ∧ w = w' := by
  have HOK := Lib.hid hok
  clear hok
  by_cases h0 : L.length = 0
  · have HC : Hid (checkSh L = 9) := by
      have : checkSh L = 9 := by unfold checkSh; rw [if_pos h0]
      exact this
    have hz : ((L.length : Int) == 0) = true := by simp [h0]
    clear h0
    go_enter Tryd.func12, Tryd.ntmps12
    go_wp2
    go_ret
    exact ⟨ret_int HC.out.symm, rfl⟩
  have hz : ((L.length : Int) == 0) = false := by simp; exact fun h => h0 (by simp [h])
  by_cases hl : 50 < L.length
  · have HC : Hid (checkSh L = 2) := by
      have : checkSh L = 2 := by unfold checkSh; rw [if_neg h0, if_pos hl]
      exact this
    clear h0
    go_enter Tryd.func12, Tryd.ntmps12
    go_wp2
    go_ret
    exact ⟨ret_int HC.out.symm, rfl⟩
  have HC : Hid (checkSh L = scanS none L) := by
    have : checkSh L = scanS none L := by unfold checkSh; rw [if_neg h0, if_neg hl]
    exact this
  clear h0
  go_enter Tryd.func12, Tryd.ntmps12
  go_wp2
  go_loop [15] (fun i => ∃ k : Nat, k ≤ L.length ∧ i = .int .i64 k ∧ Hid (checkSh L = scanS (prevS L k) (L.drop k))) (fun i => L.length - (intOf i).toNat)
  case atStart => exact ⟨0, by omega, rfl, HC⟩
  case round =>
    obtain ⟨k, hk, rfl, HK⟩ := hrel
    by_cases hlt : k < L.length
    · have hgk := List.getElem?_eq_getElem hlt
      have hsz := HOK.out L[k] (List.getElem_mem _)
      generalize L[k] = s at hgk hsz
      obtain ⟨b, o, rfl, e0⟩ := str_cell hs hgk
      have HST := Lib.hid (scanS_step (prevS L k) hgk)
      have HP : Hid (prevS L (k + 1) = some s) := hgk
      clear hgk
      by_cases hn : nameB s.data.toList = false
      · have HF : Hid (checkSh L = 5) := by have := HK.out; rw [HST.out, if_pos hn] at this; exact this
        go_wp2_with (go_at_call 13; refine (rule_XisName s hsz _).mono ?_; rintro e w' ⟨rfl, rfl⟩)
        go_ret
        exact ⟨ret_int HF.out.symm, rfl⟩
      have hn' : nameB s.data.toList = true := by simpa using hn
      have HS2 : Hid (checkSh L = if (match prevS L k with | none => false | some q => decide (cmpS s q ≤ 0)) = true then 8 else scanS (some s) (L.drop (k + 1))) := by
        have := HK.out; rw [HST.out, if_neg (by simp [hn'])] at this; exact this
      clear hn
      by_cases h0 : k = 0
      · subst h0
        simp only [Nat.add_zero] at e0
        have HS3 : Hid (checkSh L = scanS (prevS L (0 + 1)) (L.drop (0 + 1))) := by have := HS2.out; simp only [prevS] at this; rw [HP.out]; exact (by simpa using this : checkSh L = scanS (some s) (L.drop (0 + 1)))
        go_wp2_with (go_at_call 13; refine (rule_XisName s hsz _).mono ?_; rintro e w' ⟨rfl, rfl⟩)
        go_round
        case rel => exact ⟨0 + 1, by omega, rfl, HS3⟩
        case measure => simp [intOf]; omega
      · obtain ⟨j, rfl⟩ : ∃ j, k = j + 1 := ⟨k - 1, by omega⟩
        have hgj := List.getElem?_eq_getElem (show j < L.length by omega)
        have HS3 : Hid (checkSh L = if decide (cmpS s L[j] ≤ 0) = true then 8 else scanS (prevS L (j + 1 + 1)) (L.drop (j + 1 + 1))) := by
          have := HS2.out; rw [show prevS L (j + 1) = some L[j] from hgj] at this; rw [HP.out]; exact this
        generalize L[j] = s' at hgj HS3
        obtain ⟨b', o', hb', f0⟩ := str_cell hs hgj
        cases hb'
        have hlq := leq_of s s'
        clear hgj h0 HS2 HST
        by_cases ho : cmpS s s' ≤ 0
        · have HF : Hid (checkSh L = 8) := by have h1 := HS3.out; rw [if_pos (decide_eq_true ho)] at h1; exact h1
          rw [decide_eq_true ho] at hlq
          clear ho
          go_wp2_with (go_at_call 13; refine (rule_XisName s hsz _).mono ?_; rintro e w' ⟨rfl, rfl⟩)
          all_goals first | (go_ret; exact ⟨ret_int HF.out.symm, rfl⟩) | (exfalso; simp_all; done)
        · have HS4 : Hid (checkSh L = scanS (prevS L (j + 1 + 1)) (L.drop (j + 1 + 1))) := by
            have h1 := HS3.out
            rw [if_neg (by simp; omega)] at h1; exact h1
          rw [decide_eq_false ho] at hlq
          clear ho
          go_wp2_with (go_at_call 13; refine (rule_XisName s hsz _).mono ?_; rintro e w' ⟨rfl, rfl⟩)
          all_goals go_round
          case rel => exact ⟨j + 1 + 1, by omega, by go_num, HS4⟩
          case measure => simp [intOf]; omega
    · have HF : Hid (checkSh L = 0) := by
        have := HK.out
        rw [drop_nil L k (by omega)] at this
        rw [this]; rfl
      go_wp2
      go_ret
      exact ⟨ret_int HF.out.symm, rfl⟩

end Go.Proofs.YtacchooggifnhaaDoor
namespace Go.Proofs.YtacchooggifnhaaDoor
open Go.RowKit
def mx (a b : Int) : Int := if a < b then b else a
def mn (a b : Int) : Int := if b < a then b else a
/-- what is known of a shard, from what was ahead -/
def kOf (s : ByteArray) : Int → Int → List Ev → Int
  | out, _, [] => out
  | out, n, e :: r => if e.shard = s then (if e.number = n + 1 then kOf s (if e.kind = 3 then mx out e.time else out) (n + 1) r else out) else kOf s out n r
theorem kOf_step (s : ByteArray) (out n : Int) {l : List Ev} {k : Nat} {e : Ev} (h : l[k]? = some e) : kOf s out n (l.drop k) = if e.shard = s then (if e.number = n + 1 then kOf s (if e.kind = 3 then mx out e.time else out) (n + 1) (l.drop (k + 1)) else out) else kOf s out n (l.drop (k + 1)) := by
  obtain ⟨hk, rfl⟩ := List.getElem?_eq_some_iff.1 h
  rw [List.drop_eq_getElem_cons hk]; rfl
theorem ne_toList {a b : ByteArray} (h : a ≠ b) : (a.toList == b.toList) = false := by
  simp only [beq_eq_false_iff_ne, ne_eq, ByteArray.toList_eq]; exact fun e => h (bytes_ext e)

end Go.Proofs.YtacchooggifnhaaDoor
namespace Go.Proofs.YtacchooggifnhaaDoor
open Go.RowKit
def wholeTo (l : List Ev) : Nat → Bool
  | 0 => true
  | k + 1 => match l[k]? with
    | some e => (if newAt l k then true else wholeTo l k) && decide (e.number = nextAt l k)
    | none => wholeTo l k
def byTo (l : List Ev) (s : ByteArray) : Nat → Int
  | 0 => 0
  | k + 1 => match l[k]? with
    | some e => if wholeTo l (k + 1) = true ∧ e.kind = 3 ∧ e.shard = s then mx (byTo l s k) e.time else byTo l s k
    | none => byTo l s k
structure Kst where
  out : Int
  n : Int
  st : Bool
def stepK (s : ByteArray) (q : Kst) (e : Ev) : Kst :=
  if q.st then q else if e.shard = s then (if e.number = q.n + 1 then ⟨if e.kind = 3 then mx q.out e.time else q.out, q.n + 1, false⟩ else { q with st := true }) else q
def refTo (l : List Ev) (s : ByteArray) : Nat → Kst
  | 0 => ⟨0, 0, false⟩
  | k + 1 => match l[k]? with
    | some e => stepK s (refTo l s k) e
    | none => refTo l s k
theorem refTo_step {l : List Ev} {k : Nat} {e : Ev} (s : ByteArray) (h : l[k]? = some e) : refTo l s (k + 1) = stepK s (refTo l s k) e := by simp only [refTo, h]
theorem kOf_refTo (l : List Ev) (s : ByteArray) : ∀ k, k ≤ l.length → kOf s 0 0 l = if (refTo l s k).st then (refTo l s k).out else kOf s (refTo l s k).out (refTo l s k).n (l.drop k)
  | 0, _ => by simp [refTo]
  | k + 1, h => by
    have ih := kOf_refTo l s k (by omega)
    have hg := List.getElem?_eq_getElem (show k < l.length by omega)
    generalize l[k] = e at hg
    rw [kOf_step s _ _ hg] at ih
    rw [refTo_step s hg, ih]
    unfold stepK
    by_cases h1 : (refTo l s k).st = true
    · simp [h1]
    · by_cases h2 : e.shard = s
      · by_cases h3 : e.number = (refTo l s k).n + 1
        · simp [h1, h2, h3]
        · simp [h1, h2, h3]
      · simp [h1, h2]
theorem kOf_end (l : List Ev) (s : ByteArray) : kOf s 0 0 l = (refTo l s l.length).out := by
  have := kOf_refTo l s l.length (Nat.le_refl _)
  rw [drop_nil l l.length (Nat.le_refl _)] at this
  rw [this]; simp [kOf]
/-- no event of the shard ahead: nothing is known of it -/
theorem refTo_fresh {l : List Ev} {s : ByteArray} : ∀ k, (∀ j e, j < k → l[j]? = some e → e.shard ≠ s) → refTo l s k = ⟨0, 0, false⟩
  | 0, _ => rfl
  | k + 1, h => by
    have ih := refTo_fresh k (fun j e hj he => h j e (by omega) he)
    cases hg : l[k]? with
    | none => simp only [refTo, hg]; exact ih
    | some e => rw [refTo_step s hg, ih]; simp [stepK, h k e (by omega) hg]
/-- neighbours are in order -/
theorem scan_next : ∀ (p : Option Ev) (l : List Ev), scanFrom p l = 0 → (∀ q e, p = some q → l[0]? = some e → ordE q e < 0) ∧ ∀ k q e, l[k]? = some q → l[k + 1]? = some e → ordE q e < 0
  | _, [], _ => ⟨fun _ _ _ h => by simp at h, fun _ _ _ h => by simp at h⟩
  | p, x :: l, h => by
    simp only [scanFrom] at h
    by_cases hx : checkE x = 0
    · rw [if_neg (by simp [hx])] at h
      have h' := ite8 _ _ h
      obtain ⟨i1, i2⟩ := scan_next (some x) l h'
      refine ⟨fun q e hp he => ?_, fun k q e hq he => ?_⟩
      · subst hp
        simp at he; subst he
        by_cases ho : 0 ≤ ordE q x
        · simp [ho] at h
        · omega
      · cases k with
        | zero => simp at hq he; subst hq; exact i1 x e rfl he
        | succ k => exact i2 k q e (by simpa using hq) (by simpa using he)
    · rw [if_pos hx] at h; omega
theorem ord_shard {a b : Ev} (h : ordE a b < 0) : cmpS a.shard b.shard ≤ 0 := by
  unfold ordE orI at h
  have := cmpS_tri a.shard b.shard
  split at h <;> omega
theorem sorted {l : List Ev} (h : scanFrom none l = 0) : ∀ (d i : Nat) (q e : Ev), l[i]? = some q → l[i + d]? = some e → cmpS q.shard e.shard ≤ 0
  | 0, i, q, e, hq, he => by simp at he; rw [hq] at he; cases he; rw [cmpS_self]; exact Int.le_refl _
  | d + 1, i, q, e, hq, he => by
    have hlt : i + d < l.length := by have := (List.getElem?_eq_some_iff.1 he).1; omega
    have hg := List.getElem?_eq_getElem hlt
    exact cmpS_trans (sorted h d i q _ hq hg) (ord_shard ((scan_next none l h).2 (i + d) _ e hg he))
/-- a shard that begins at k + 1 did not come ahead -/
theorem fresh {l : List Ev} (h : scanFrom none l = 0) {k : Nat} {p e : Ev} (hp : l[k]? = some p) (he : l[k + 1]? = some e) (hne : p.shard ≠ e.shard) : ∀ j q, j < k + 1 → l[j]? = some q → q.shard ≠ e.shard := by
  intro j q hj hq heq
  have h1 := sorted h (k - j) j q p hq (by rw [show j + (k - j) = k by omega]; exact hp)
  have h2 := sorted h 1 k p e hp he
  rw [heq] at h1
  rw [cmpS_anti] at h1
  exact hne (cmpS_zero (by omega))
/-- both go hand in hand -/
theorem hand {l : List Ev} (h : scanFrom none l = 0) (s : ByteArray) : ∀ k, k ≤ l.length → byTo l s k = (refTo l s k).out ∧ (∀ j p, k = j + 1 → l[j]? = some p → p.shard = s → wholeTo l k = !(refTo l s k).st ∧ ((refTo l s k).st = false → (refTo l s k).n = p.number))
  | 0, _ => ⟨rfl, fun _ _ h => by omega⟩
  | k + 1, hk => by
    obtain ⟨i1, i2⟩ := hand h s k (by omega)
    have hg := List.getElem?_eq_getElem (show k < l.length by omega)
    generalize l[k] = e at hg
    have hw : wholeTo l (k + 1) = ((if newAt l k then true else wholeTo l k) && decide (e.number = nextAt l k)) := by simp only [wholeTo, hg]
    have hb : byTo l s (k + 1) = if wholeTo l (k + 1) = true ∧ e.kind = 3 ∧ e.shard = s then mx (byTo l s k) e.time else byTo l s k := by simp only [byTo, hg]
    by_cases hs : e.shard = s
    · -- the state ahead of this event
      have key : (if newAt l k then true else wholeTo l k) = !(refTo l s k).st ∧ ((refTo l s k).st = false → nextAt l k = (refTo l s k).n + 1) := by
        cases k with
        | zero => simp [newAt, refTo, nextAt]
        | succ j =>
          have hgj := List.getElem?_eq_getElem (show j < l.length by omega)
          generalize l[j] = p at hgj
          have hnew : newAt l (j + 1) = decide (e.shard ≠ p.shard) := by rw [newAt, hg, hgj]; simp
          by_cases hq : p.shard = e.shard
          · obtain ⟨a1, a2⟩ := i2 j p rfl hgj (by rw [hq, hs])
            rw [hnew]
            refine ⟨by simp [hq, a1], fun h0 => ?_⟩
            simp only [nextAt, hgj, hg, if_pos hq, a2 h0]
          · have hf := fresh h hgj hg hq
            rw [hs] at hf
            rw [refTo_fresh (j + 1) hf, hnew]
            refine ⟨by simp [Ne.symm hq], fun _ => ?_⟩
            simp only [nextAt, hgj, hg, if_neg hq]; rfl
      obtain ⟨k1, k2⟩ := key
      rw [hb, hw, k1, refTo_step s hg, i1]
      unfold stepK
      cases hst : (refTo l s k).st
      · have k3 := k2 hst
        by_cases hn : e.number = (refTo l s k).n + 1
        · by_cases hk3 : e.kind = 3
          · refine ⟨by simp [k3, hn, hs, hk3], fun j p hj hp _ => ?_⟩
            obtain rfl : j = k := by omega
            rw [hg] at hp; cases hp
            simp [k3, hn, hs]
          · refine ⟨by simp [k3, hn, hs, hk3], fun j p hj hp _ => ?_⟩
            obtain rfl : j = k := by omega
            rw [hg] at hp; cases hp
            simp [k3, hn, hs]
        · refine ⟨by simp [k3, hn, hs], fun j p hj hp _ => ?_⟩
          simp [k3, hn, hs]
      · refine ⟨by simp, fun j p hj hp _ => ?_⟩
        simp [hst]
    · refine ⟨?_, fun j p hj hp hps => ?_⟩
      · rw [hb, refTo_step s hg, i1]
        simp [stepK, hs]
      · obtain rfl : j = k := by omega
        rw [hg] at hp; cases hp; exact absurd hps hs
theorem by_known {l : List Ev} (h : checkL l = 0) (s : ByteArray) : byTo l s l.length = kOf s 0 0 l := by
  rw [kOf_end, (hand (check_ok h).2.2 s l.length (Nat.le_refl _)).1]
end Go.Proofs.YtacchooggifnhaaDoor
