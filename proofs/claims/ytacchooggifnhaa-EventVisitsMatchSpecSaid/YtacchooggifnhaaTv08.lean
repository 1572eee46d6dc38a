/- Visits of package event. Printed by gen_visa.py. -/
import Derived.Test.YtacchooggifnhaaTv05
import Derived.Test.YtacchooggifnhaaTv07
import Derived.Test.YtacchooggifnhaaTv06
namespace Go.Proofs.Ytacchooggifnhaa
open Go.RowKit
namespace Ex
theorem vis_info : (Try.prog.info? 40).map (fun i => (i.zero, i.size, i.bytes)) = some (some (.agg #[.int .i64 0, .int .i64 0, .int .i64 0]), 3, 24) := by kernel_rfl
theorem intE_info : (Try.prog.info? 3).map (fun i => (i.zero, i.size, i.bytes)) = some (some (.int .i64 0), 1, 8) := by kernel_rfl
theorem viL_one (v : Vis) : ∀ u ∈ viL v, u.oneCell' = true := by
  intro u hu
  simp only [viL, List.mem_cons, List.not_mem_nil, or_false] at hu
  rcases hu with rfl | rfl | rfl <;> rfl
/-- an event of a key -/
def ofKey (key : ByteArray) (e : Ev) : Bool := !decide (e.kind = 3) && decide (e.key = key)
def timesX (key : ByteArray) (l : List Ev) : List Int := (l.filter (ofKey key)).map (·.time)
theorem times_take {key : ByteArray} {l : List Ev} {k : Nat} {e : Ev} (h : l[k]? = some e) : timesX key (l.take (k + 1)) = timesX key (l.take k) ++ if ofKey key e then [e.time] else [] := by
  obtain ⟨hk, rfl⟩ := List.getElem?_eq_some_iff.1 h
  unfold timesX
  rw [List.take_succ_eq_append_getElem hk, List.filter_append, List.map_append]
  by_cases hc : ofKey key l[k] = true <;> simp [hc]
theorem checkE_time {e : Ev} (h : checkE e = 0) : 0 ≤ e.time ∧ e.time ≤ 4000000000 := by
  unfold checkE at h
  by_cases h1 : nameB e.shard.data.toList = false
  · rw [if_pos h1] at h; cases h
  rw [if_neg h1] at h
  by_cases h2 : withinB e.number 1 1000000000000 = false
  · rw [if_pos h2] at h; cases h
  rw [if_neg h2] at h
  by_cases h3 : withinB e.kind 1 3 = false
  · rw [if_pos h3] at h; cases h
  rw [if_neg h3] at h
  by_cases h4 : withinB e.time 0 4000000000 = false
  · rw [if_pos h4] at h; cases h
  have : withinB e.time 0 4000000000 = true := by simpa using h4
  unfold withinB at this
  exact of_decide_eq_true this
theorem scan_all : ∀ (p : Option Ev) (l : List Ev), scanFrom p l = 0 → ∀ e ∈ l, checkE e = 0
  | _, [], _, e, he => by cases he
  | p, x :: l, h, e, he => by
    simp only [scanFrom] at h
    by_cases hx : checkE x = 0
    · rw [if_neg (by simp [hx])] at h
      have h' : scanFrom (some x) l = 0 := by
        have aux : ∀ (b : Bool) (y : Int), (if b = true then (8 : Int) else y) = 0 → y = 0 := fun b y hy => by cases b <;> simp_all
        exact aux _ _ h
      rcases List.mem_cons.1 he with rfl | he
      · exact hx
      · exact scan_all _ l h' e he
    · rw [if_pos hx] at h; omega
theorem checkL_each {l : List Ev} (h : checkL l = 0) : ∀ e ∈ l, checkE e = 0 := by
  unfold checkL at h
  by_cases h1 : 20000 < l.length
  · rw [if_pos h1] at h; cases h
  · rw [if_neg h1] at h
    by_cases h2 : scanFrom none l = 0
    · exact scan_all none l h2
    · rw [if_pos h2] at h; exact absurd h h2
theorem times_ok {key : ByteArray} {l : List Ev} (h : checkL l = 0) : (timesX key l).length ≤ 20000 ∧ ∀ t ∈ timesX key l, 0 ≤ t ∧ t ≤ 4000000000 := by
  refine ⟨?_, fun t ht => ?_⟩
  · unfold timesX
    rw [List.length_map]
    exact Nat.le_trans (List.length_filter_le _ _) (checkL_len h)
  · obtain ⟨e, he, rfl⟩ := List.mem_map.1 ht
    exact checkE_time (checkL_each h e (List.mem_filter.1 he).1)
/-- the fault of Visits, and the visits -/
def visF (l : List Ev) (key : ByteArray) (gap : Int) : Int := if checkL l ≠ 0 then checkL l else if keyB key.data.toList = false then 3 else if withinB gap 0 100000000 = false then 1 else 0
def visV (l : List Ev) (key : ByteArray) (gap : Int) : List Vis := if visF l key gap = 0 then visX gap (sortZ (timesX key l)) else []
theorem visN_le {gap : Int} {ts : List Int} (h : ts.Pairwise (· ≤ ·)) : ∀ v ∈ visX gap ts, v.n ≤ ts.length := by
  intro v hv
  have ok := visOk (gap := gap) h
  have key : ∀ (l : List Vis), (∀ u ∈ l, 1 ≤ u.n) → ∀ u ∈ l, u.n ≤ (l.map (·.n)).sum := by
    intro l
    induction l with
    | nil => intro _ u hu; cases hu
    | cons a l ih =>
      intro h1 u hu
      have hpos : ∀ (l : List Vis), (∀ u ∈ l, 1 ≤ u.n) → 0 ≤ (l.map (·.n)).sum := by
        intro l
        induction l with
        | nil => intro _; simp
        | cons b l ih2 =>
          intro h2
          have e1 := ih2 (fun u hu => h2 u (List.mem_cons_of_mem _ hu))
          have e2 := h2 b List.mem_cons_self
          simp only [List.map_cons, List.sum_cons]; omega
      have e1 := hpos l (fun u hu => h1 u (List.mem_cons_of_mem _ hu))
      have e3 := h1 a List.mem_cons_self
      simp only [List.map_cons, List.sum_cons]
      rcases List.mem_cons.1 hu with rfl | hu
      · omega
      · have e2 := ih (fun u hu => h1 u (List.mem_cons_of_mem _ hu)) u hu
        omega
  have := key _ (fun u hu => (ok.each u hu).2) v hv
  rw [ok.sum] at this
  exact this
theorem vis_first {gap : Int} {Z : List Int} {t : Int} (h : Z[0]? = some t) : visX gap (Z.take (0 + 1)) = [⟨t, t, 1⟩] := by
  rw [visX_take h]; rfl
theorem vis_round {gap : Int} {Z : List Int} {k : Nat} {t p : Int} (hs : Z.Pairwise (· ≤ ·)) (h : Z[k]? = some t) (h0 : 0 < k) (hp : Z[k - 1]? = some p) :
    ∃ (vs : List Vis) (v : Vis), visX gap (Z.take k) = vs ++ [v] ∧ v.to = p ∧ 0 ≤ v.n ∧ v.n ≤ k ∧ visX gap (Z.take (k + 1)) = if t - p ≤ gap then vs ++ [⟨v.fr, t, v.n + 1⟩] else (vs ++ [v]) ++ [⟨t, t, 1⟩] := by
  obtain ⟨hk, _⟩ := List.getElem?_eq_some_iff.1 h
  have hst : (Z.take k).Pairwise (· ≤ ·) := hs.sublist (List.take_sublist _ _)
  have ok := visOk (gap := gap) hst
  cases hl : (visX gap (Z.take k)).getLast? with
  | none =>
    have h1 := ok.none (List.getLast?_eq_none_iff.1 hl)
    have h2 : (Z.take k).length = 0 := by rw [h1]; rfl
    rw [List.length_take] at h2; omega
  | some v =>
    have e1 := snoc_of hl
    have e2 := ok.last v hl
    have e3 : v.to = p := by
      rw [List.getLast?_eq_getElem?, List.length_take, Nat.min_eq_left (by omega), List.getElem?_take_of_lt (by omega), hp] at e2
      injection e2 with e2; exact e2.symm
    have hvm : v ∈ visX gap (Z.take k) := List.mem_of_getLast? hl
    have e4 := visN_le hst v hvm
    rw [List.length_take] at e4
    have e5 := (ok.each v hvm).2
    refine ⟨(visX gap (Z.take k)).dropLast, v, e1, e3, by omega, by omega, ?_⟩
    rw [visX_take h]
    unfold stepV
    rw [hl]
    simp only [e3]
    rw [← e1]
/-- the last visit with one more event at t -/
theorem viL_set (vs : List Vis) (v : Vis) (t m : Int) : (((vs ++ [v]).flatMap viL).set (vs.length * 3 + 1) (.int .i64 t)).set (vs.length * 3 + 2) (.int .i64 m) = (vs ++ [(⟨v.fr, t, m⟩ : Vis)]).flatMap viL := by
  have hl : (vs.flatMap viL).length = vs.length * 3 := flat_length (f := viL) (sz := 3) (fun _ => rfl) vs
  rw [List.flatMap_append, List.flatMap_append, List.set_append_right _ _ (by omega), List.set_append_right _ _ (by omega), hl]
  have e1 : vs.length * 3 + 1 - vs.length * 3 = 1 := by omega
  have e2 : vs.length * 3 + 2 - vs.length * 3 = 2 := by omega
  rw [e1, e2]; rfl
theorem viL_get (vs : List Vis) (v : Vis) : ((vs ++ [v]).flatMap viL)[vs.length * 3 + 1]? = some (.int .i64 v.to) ∧ ((vs ++ [v]).flatMap viL)[vs.length * 3 + 2]? = some (.int .i64 v.n) := by
  have hl : (vs.flatMap viL).length = vs.length * 3 := flat_length (f := viL) (sz := 3) (fun _ => rfl) vs
  rw [List.flatMap_append, List.getElem?_append_right (by omega), List.getElem?_append_right (by omega), hl]
  have e1 : vs.length * 3 + 1 - vs.length * 3 = 1 := by omega
  have e2 : vs.length * 3 + 2 - vs.length * 3 = 2 := by omega
  rw [e1, e2]; exact ⟨rfl, rfl⟩
set_option maxRecDepth 100000 in
set_option maxHeartbeats 16000000 in
theorem Visits_at (l : List Ev) (hok : ∀ e ∈ l, e.ok) (key : ByteArray) (hx : key.size ≤ maxLen) (gap : Int) (a : Option Addr) (c : Nat) (w : World) (hs : Sl w (.slice a l.length c) l.length (l.flatMap evL)) :
    Calls Try.prog 8 #[.slice a l.length c, .string key, .int .i64 gap] w fun e w' => ∃ (b : Option Addr) (d : Nat), e = .returned (.tuple #[.slice b (visV l key gap).length d, .int .i64 (visF l key gap)]) ∧ Sl w' (.slice b (visV l key gap).length d) (visV l key gap).length ((visV l key gap).flatMap viL) ∧ Below w.heap.size w w' := by
  have hl := hs.len_le
  have HOK := Lib.hid hok
  have HS := Lib.hid hs
  have HX := Lib.hid hx
  clear hok hs hx
  go_enter Try.func8, Try.ntmps8
  go_wp2_with fail
  refine (event_CheckLog l HOK.out a c w HS.out).mono ?_
  rintro e w1 ⟨rfl, hb1⟩
  obtain ⟨f, hf⟩ : ∃ z, checkL l = z := ⟨_, rfl⟩
  have HF : Hid (visF l key gap = if f ≠ 0 then f else if keyB key.data.toList = false then 3 else if withinB gap 0 100000000 = false then 1 else 0) := Lib.hid (by rw [← hf]; rfl)
  have HFC := Lib.hid hf
  rw [hf]
  clear hf
  by_cases h0 : f = 0
  · subst h0
    obtain ⟨kb, hkb⟩ : ∃ z, keyB key.data.toList = z := ⟨_, rfl⟩
    rw [hkb] at HF
    have HXK := Lib.hid (fun W9 => (by have h9 := rule_XisKey key HX.out W9; rw [hkb] at h9; exact h9 : Calls Try.prog 31 #[.string key] W9 fun e w' => e = .returned (.bool kb) ∧ W9 = w'))
    obtain ⟨gb, hgb⟩ : ∃ z, withinB gap 0 100000000 = z := ⟨_, rfl⟩
    rw [hgb] at HF
    have HGB := Lib.hid hgb
    have HXG := Lib.hid (fun W9 => (by have h9 := event_within gap 0 100000000 W9; rw [hgb] at h9; exact h9 : Calls Try.prog 22 #[.int .i64 gap, .int .i64 0, .int .i64 100000000] W9 fun e w' => e = .returned (.bool gb) ∧ W9 = w'))
    clear hkb hgb
    go_wp2_with fail
    refine (HXK.out w1).mono ?_
    rintro e w2 ⟨rfl, hw⟩
    subst hw
    cases kb
    · have HN : Hid (visF l key gap = 3) := Lib.hid (HF.out.trans rfl)
      have H0 : Hid ((3 : Int) ≠ 0) := Lib.hid (by decide)
      have HV0 : Hid (visV l key gap = []) := Lib.hid (by unfold visV; rw [if_neg (by rw [HN.out]; first | exact H0.out | decide)])
      go_wp2
      exact bodyPost_ret (v := .tuple #[.slice none 0 0, .int .i64 3]) (by simp [results, Try.results8, go_sem]) rfl ⟨none, 0, by rw [HN.out, HV0.out]; rfl, by rw [HV0.out]; exact Sl.nil _, hb1⟩
    · go_wp2_with fail
      refine (HXG.out w1).mono ?_
      rintro e w2 ⟨rfl, hw⟩
      subst hw
      cases gb
      · have HN : Hid (visF l key gap = 1) := Lib.hid (HF.out.trans rfl)
        have H0 : Hid ((1 : Int) ≠ 0) := Lib.hid (by decide)
        have HV0 : Hid (visV l key gap = []) := Lib.hid (by unfold visV; rw [if_neg (by rw [HN.out]; first | exact H0.out | decide)])
        go_wp2
        exact bodyPost_ret (v := .tuple #[.slice none 0 0, .int .i64 1]) (by simp [results, Try.results8, go_sem]) rfl ⟨none, 0, by rw [HN.out, HV0.out]; rfl, by rw [HV0.out]; exact Sl.nil _, hb1⟩
      · have HN : Hid (visF l key gap = 0) := Lib.hid (HF.out.trans rfl)
        have hgp : 0 ≤ gap ∧ gap ≤ 100000000 := of_decide_eq_true HGB.out
        have hl20 := checkL_len HFC.out
        clear HF HXK HXG HGB
        go_wp2
        go_loopw [9, 31] (fun v9 i wr => ∃ k n : Nat, k ≤ l.length ∧ n ≤ k ∧ i = .int .i64 k ∧ Hid ((timesX key (l.take k)).length = n) ∧ wr.ownsRow w.heap.size 3 1 v9 n ((timesX key (l.take k)).map (Value.int .i64)) ∧ Below w.heap.size w wr) (fun _ i _ => l.length - (intOf i).toNat)
        case atStart => exact ⟨0, 0, by omega, by omega, rfl, rfl, World.ownsRow_nil _ _ _ _, hb1⟩
        case round =>
          clear hb1
          obtain ⟨k, n, hk, hnk, rfl, HTN, hown, hbr⟩ := hrel
          by_cases hlt : k < l.length
          · have hgk := List.getElem?_eq_getElem hlt
            generalize l[k] = s at hgk
            have HTT := Lib.hid (times_take (key := key) hgk)
            obtain ⟨b, o, rfl, e0, e1, e2, e3, e4, e5, e6, e7⟩ := ev_cells (HS.out.ext hbr) hgk
            have hk0 : (0 : Int) ≤ (k : Int) := Int.natCast_nonneg _
            have hk1 : (k : Int) < (l.length : Int) := by omega
            clear hgk
            go_upto_region 12 with (fail)
            clear e0 e1 e2 e3 e4 e5 e6 e7
            refine wp_box1 fun X hszX hbX hX => ?_
            obtain ⟨g0, g1, g2, g3, g4, g5, g6, g7⟩ := box_ev hX
            have hownX := ownsRow_ext hown hbX
            have hbw := hbr.trans (hbX.mono hbr.size)
            clear hX hszX hown hbX hbr
            by_cases hkd : s.kind = 3
            · have hkb : (s.kind != 3) = false := by simpa using hkd
              have HT2 : Hid (timesX key (l.take (k + 1)) = timesX key (l.take k)) := Lib.hid (by rw [HTT.out]; unfold ofKey; simp [hkd])
              clear hkd
              have hown8 : X.ownsRow w.heap.size 3 1 u9 n ((timesX key (l.take (k + 1))).map (Value.int .i64)) := by rw [HT2.out]; exact hownX
              have HTN2 : Hid ((timesX key (l.take (k + 1))).length = n) := Lib.hid (by rw [HT2.out]; exact HTN.out)
              clear hownX
              go_wp2
              go_roundw
              case rel => exact ⟨k + 1, n, by omega, by omega, by go_num, HTN2, hown8, hbw⟩
              case measure => simp [intOf]; omega
            · have hkb : (s.kind != 3) = true := by simpa using hkd
              by_cases hky : s.key = key
              · have hnb : (s.key.toList == key.toList) = true := by rw [hky]; simp
                have hnb2 : s.key.toList = key.toList := by rw [hky]
                have HT2 : Hid (timesX key (l.take (k + 1)) = timesX key (l.take k) ++ [s.time]) := Lib.hid (by rw [HTT.out]; unfold ofKey; simp [hkd, hky])
                have hone : ∀ u ∈ ([Value.int .i64 s.time] : List Value), u.oneCell' = true := by intro u hu; simp at hu; subst hu; rfl
                clear hkd hky
                go_wp2_with (at_builtin; refine wpList_append_sl rfl _ _ 33 rfl w.heap.size 3 Try.underlying33 intE_info rfl (by decide) rfl (ownsRow_ext hownX (ext_alloc _ _)) rfl (Sl.new X #[.int .i64 s.time] _ 1 1 (by omega) (by decide)) rfl hone (by unfold maxLen; omega) (by omega) (by have := hbw.size; simp; omega) ?_; intro v7 w7 hown7 hg7 _)
                have hoA := ownsRow_ext hownX (ext_alloc X (.cells #[.int .i64 s.time] 3))
                have hb8 : Below w.heap.size w w7 := (hbw.trans ((ext_alloc X (.cells #[.int .i64 s.time] 3)).mono hbw.size)).grown hg7 (by have := hbw.size; simp; omega) (fun q hq => (hoA.lt q hq).1)
                have hown8 : w7.ownsRow w.heap.size 3 1 v7 (n + 1) ((timesX key (l.take (k + 1))).map (Value.int .i64)) := by rw [HT2.out, List.map_append]; exact hown7
                have HTN2 : Hid ((timesX key (l.take (k + 1))).length = n + 1) := Lib.hid (by rw [HT2.out, List.length_append, HTN.out]; rfl)
                clear hown7 hg7 hoA hownX hbw g0 g1 g2 g3 g4 g5 g6 g7
                go_wp2
                go_roundw
                case rel => exact ⟨k + 1, n + 1, by omega, by omega, by go_num, HTN2, hown8, hb8⟩
                case measure => simp [intOf]; omega
              · have hnb : (s.key.toList == key.toList) = false := by rw [beq_eq_false_iff_ne, ByteArray.toList_eq, ByteArray.toList_eq]; exact fun h => hky (bytes_ext h)
                have hnb2 : ¬ (s.key.toList = key.toList) := by rw [ByteArray.toList_eq, ByteArray.toList_eq]; exact fun h => hky (bytes_ext h)
                have HT2 : Hid (timesX key (l.take (k + 1)) = timesX key (l.take k)) := Lib.hid (by rw [HTT.out]; unfold ofKey; simp [hky])
                clear hkd hky
                have hown8 : X.ownsRow w.heap.size 3 1 u9 n ((timesX key (l.take (k + 1))).map (Value.int .i64)) := by rw [HT2.out]; exact hownX
                have HTN2 : Hid ((timesX key (l.take (k + 1))).length = n) := Lib.hid (by rw [HT2.out]; exact HTN.out)
                clear hownX
                go_wp2
                go_roundw
                case rel => exact ⟨k + 1, n, by omega, by omega, by go_num, HTN2, hown8, hbw⟩
                case measure => simp [intOf]; omega
          · have hTl : timesX key (l.take k) = timesX key l := by rw [List.take_of_length_le (by omega)]
            rw [hTl] at hown HTN
            have HTE := times_ok (key := key) HFC.out
            have HVN : Hid (visV l key gap = visX gap (sortZ (timesX key l))) := Lib.hid (by unfold visV; rw [if_pos HN.out])
            obtain ⟨T, hT⟩ : ∃ z, timesX key l = z := ⟨_, rfl⟩
            rw [hT] at hown HTN HTE HVN
            obtain rfl : T.length = n := HTN.out
            obtain ⟨gT, cT, rfl⟩ : ∃ a9 c9, u9 = .slice a9 T.length c9 := by
              rcases hown.2 with ⟨rfl, h9⟩ | ⟨g, cap, cur, rfl, _⟩
              · exact ⟨none, 0, by rw [h9]⟩
              · exact ⟨_, _, rfl⟩
            obtain ⟨hT20, hTb⟩ := HTE
            have HTB := Lib.hid hTb
            clear hTb hT hTl HTN hnk hk
            go_wp2_with fail
            refine (sortInt_at w.heap.size T hT20 _ wr hown).mono ?_
            rintro e w3 ⟨rfl, hoZ, hg3⟩
            have hb3 := hbr.grown hg3 hbr.size (fun q hq => (hown.lt q hq).1)
            have HZS := Lib.hid (sortZ_srt T)
            have HZB : Hid (∀ t ∈ sortZ T, 0 ≤ t ∧ t ≤ 4000000000) := Lib.hid (fun t ht => HTB.out t ((sortZ_perm T).mem_iff.1 ht))
            have hZl := sortZ_len T
            obtain ⟨Z, hZ⟩ : ∃ z, sortZ T = z := ⟨_, rfl⟩
            rw [hZ] at hoZ HZS HZB hZl HVN
            rw [← hZl] at hoZ ⊢
            rw [← hZl] at hT20
            clear hZl hZ hg3 hbr hown HTB
            go_wp2
            go_loopw [12, 54] (fun v12 v54 wq => ∃ k n2 : Nat, k ≤ Z.length ∧ v54 = .int .i64 k ∧ Hid ((visX gap (Z.take k)).length = n2) ∧ n2 ≤ k ∧ wq.ownsRow w.heap.size 40 3 v12 n2 ((visX gap (Z.take k)).flatMap viL) ∧ wq.ownsRow w.heap.size 3 1 (.slice gT Z.length cT) Z.length (Z.map (Value.int .i64)) ∧ Below w.heap.size w wq) (fun _ i _ => Z.length - (intOf i).toNat)
            case atStart => exact ⟨0, 0, by omega, rfl, rfl, by omega, World.ownsRow_nil _ _ _ _, hoZ, hb3⟩
            case round =>
              clear hb3 hoZ
              obtain ⟨k, n2, hk, rfl, HN2, hn2, hoV, hoZ, hbq⟩ := hrel
              by_cases hlt : k < Z.length
              · have hgk := List.getElem?_eq_getElem hlt
                generalize Z[k] = t at hgk
                have ht := HZB.out t (List.mem_of_getElem? hgk)
                obtain ⟨g, cap, hgT, hgw⟩ := own_form hoZ (by omega)
                obtain rfl : gT = some ⟨g, 0, none⟩ := by injection hgT
                obtain rfl : cT = cap := by injection hgT
                clear hgT
                have c0 := (own_cell hoZ (i := k) (x := .int .i64 t) (by rw [List.getElem?_map, hgk]; rfl)).1
                have hk0 : (0 : Int) ≤ (k : Int) := Int.natCast_nonneg _
                have hk1 : (k : Int) < (Z.length : Int) := by omega
                go_upto_region 20 with (fail)
                cases k with
                | zero =>
                  have HNW : Hid (visX gap (Z.take (0 + 1)) = [] ++ [(⟨t, t, 0 + 1⟩ : Vis)]) := Lib.hid (vis_first (gap := gap) hgk)
                  obtain rfl : n2 = 0 := by omega
                  clear HN2 hgk hgw c0
                  have hone := viL_one ⟨t, 0, 0⟩
                  go_wp2_with (at_builtin; refine wpList_append_sl rfl _ _ 36 rfl w.heap.size 40 Try.underlying36 vis_info rfl (by decide) rfl (ownsRow_ext hoV (ext_alloc _ _)) rfl (Sl.new wr (viC ⟨t, 0, 0⟩) _ 1 1 (by omega) (by decide)) rfl hone (by unfold maxLen; omega) (by omega) (by have := hbq.size; simp; omega) ?_; intro v7 w7 hown7 hg7 _)
                  have hoA := ownsRow_ext hoV (ext_alloc wr (.cells (viC ⟨t, 0, 0⟩) 40))
                  have hZA := ownsRow_ext hoZ (ext_alloc wr (.cells (viC ⟨t, 0, 0⟩) 40))
                  have hoZ8 := hZA.kept hg7 (own_ne_own hZA hoA (by decide))
                  have hb8 : Below w.heap.size w w7 := (hbq.trans ((ext_alloc wr (.cells (viC ⟨t, 0, 0⟩) 40)).mono hbq.size)).grown hg7 (by have := hbq.size; simp; omega) (fun q hq => (hoA.lt q hq).1)
                  clear hoA hZA hg7 hbq hoZ hoV hone
                  have hoV : w7.ownsRow w.heap.size 40 3 v7 (0 + 1) ((([] : List Vis) ++ [(⟨t, 0, 0⟩ : Vis)]).flatMap viL) := hown7
                  have hoZ := hoZ8
                  have hbq := hb8
                  have HVL : Hid (([] : List Vis).length + 1 = 0 + 1) := Lib.hid rfl
                  clear hown7 hoZ8 hb8
                  obtain ⟨gv, cv, hgv, hgb⟩ := own_form hoV (by omega)
                  subst hgv
                  have hoV2 := own_set (own_set hoV (i := ([] : List Vis).length * 3 + 1) (List.getElem?_eq_some_iff.1 (viL_get ([] : List Vis) (⟨t, 0, 0⟩ : Vis)).1).1 (.int .i64 t)) (i := ([] : List Vis).length * 3 + 2) (by rw [List.length_set]; exact (List.getElem?_eq_some_iff.1 (viL_get ([] : List Vis) (⟨t, 0, 0⟩ : Vis)).2).1) (.int .i64 ((⟨t, 0, 0⟩ : Vis).n + 1))
                  rw [viL_set, show (([] : List Vis) ++ [(⟨(⟨t, 0, 0⟩ : Vis).fr, t, (⟨t, 0, 0⟩ : Vis).n + 1⟩ : Vis)]).flatMap viL = (visX gap (Z.take (0 + 1))).flatMap viL by rw [HNW.out]] at hoV2
                  have hoZ2 := own_other (own_other hoZ hoV (by decide) (([] : List Vis).length * 3 + 1) (.int .i64 t)) (own_set hoV (List.getElem?_eq_some_iff.1 (viL_get ([] : List Vis) (⟨t, 0, 0⟩ : Vis)).1).1 (.int .i64 t)) (by decide) (([] : List Vis).length * 3 + 2) (.int .i64 ((⟨t, 0, 0⟩ : Vis).n + 1))
                  have hbS := below_set (below_set hbq hgb (i := ([] : List Vis).length * 3 + 1) (.int .i64 t)) hgb (i := ([] : List Vis).length * 3 + 2) (.int .i64 ((⟨t, 0, 0⟩ : Vis).n + 1))
                  have HNL : Hid ((visX gap (Z.take (0 + 1))).length = 0 + 1) := Lib.hid (by rw [HNW.out, List.length_append]; exact HVL.out)
                  obtain ⟨c1, f1⟩ := own_cell hoV (viL_get ([] : List Vis) (⟨t, 0, 0⟩ : Vis)).1
                  obtain ⟨c2, f2⟩ := own_cell hoV (viL_get ([] : List Vis) (⟨t, 0, 0⟩ : Vis)).2
                  simp only [List.length_nil, Nat.zero_mul, Nat.zero_add] at c1 c2 f1 f2
                  go_wp2
                  exact ⟨⟨(0 + 1), 0 + 1, by omega, by go_num, HNL, by omega, hoV2, hoZ2, hbS⟩, by simp [intOf]; omega⟩
                | succ j =>
                  obtain ⟨p, hpj⟩ : ∃ p, Z[j]? = some p := ⟨_, List.getElem?_eq_getElem (by omega)⟩
                  have hp := HZB.out p (List.mem_of_getElem? hpj)
                  have cp := (own_cell hoZ (i := j) (x := .int .i64 p) (by rw [List.getElem?_map, hpj]; rfl)).1
                  obtain ⟨vs, v, e1, e2, e3, e4, e5⟩ := vis_round (gap := gap) HZS.out hgk (Nat.succ_pos j) (by simpa using hpj)
                  obtain ⟨m, rfl⟩ : ∃ m, n2 = m + 1 := ⟨vs.length, by have h9 := HN2.out; rw [e1, List.length_append] at h9; exact h9.symm⟩
                  have hvl : vs.length = m := by have h9 := HN2.out; rw [e1, List.length_append, List.length_singleton] at h9; omega
                  rw [e1] at hoV
                  clear HN2 hgk hgw hpj e1 e2
                  by_cases hgq : t - p ≤ gap
                  · have HNW : Hid (visX gap (Z.take (j + 1 + 1)) = vs ++ [(⟨v.fr, t, v.n + 1⟩ : Vis)]) := Lib.hid (by rw [e5, if_pos hgq])
                    have HVL : Hid (vs.length + 1 = m + 1) := Lib.hid (by rw [hvl])
                    have hgd : decide (gap < t - p) = false := by simpa using hgq
                    clear e5
                    obtain ⟨gv, cv, hgv, hgb⟩ := own_form hoV (by omega)
                    subst hgv
                    have hoV2 := own_set (own_set hoV (i := vs.length * 3 + 1) (List.getElem?_eq_some_iff.1 (viL_get vs v).1).1 (.int .i64 t)) (i := vs.length * 3 + 2) (by rw [List.length_set]; exact (List.getElem?_eq_some_iff.1 (viL_get vs v).2).1) (.int .i64 (v.n + 1))
                    rw [viL_set, show (vs ++ [(⟨v.fr, t, v.n + 1⟩ : Vis)]).flatMap viL = (visX gap (Z.take (j + 1 + 1))).flatMap viL by rw [HNW.out]] at hoV2
                    have hoZ2 := own_other (own_other hoZ hoV (by decide) (vs.length * 3 + 1) (.int .i64 t)) (own_set hoV (List.getElem?_eq_some_iff.1 (viL_get vs v).1).1 (.int .i64 t)) (by decide) (vs.length * 3 + 2) (.int .i64 (v.n + 1))
                    have hbS := below_set (below_set hbq hgb (i := vs.length * 3 + 1) (.int .i64 t)) hgb (i := vs.length * 3 + 2) (.int .i64 (v.n + 1))
                    have HNL : Hid ((visX gap (Z.take (j + 1 + 1))).length = m + 1) := Lib.hid (by rw [HNW.out, List.length_append]; exact HVL.out)
                    obtain ⟨c1, f1⟩ := own_cell hoV (viL_get vs v).1
                    obtain ⟨c2, f2⟩ := own_cell hoV (viL_get vs v).2
                    rw [hvl] at c1 c2 f1 f2 hoV2 hoZ2 hbS
                    go_wp2
                    exact ⟨⟨(j + 1 + 1), m + 1, by omega, by go_num, HNL, by omega, hoV2, hoZ2, hbS⟩, by simp [intOf]; omega⟩
                  · have HNW : Hid (visX gap (Z.take (j + 1 + 1)) = (vs ++ [v]) ++ [(⟨t, t, 0 + 1⟩ : Vis)]) := Lib.hid (by rw [e5, if_neg hgq]; rfl)
                    have hgq2 : gap < t - p := by omega
                    clear e5 hgq
                    have hone := viL_one ⟨t, 0, 0⟩
                    go_wp2_with (at_builtin; refine wpList_append_sl rfl _ _ 36 rfl w.heap.size 40 Try.underlying36 vis_info rfl (by decide) rfl (ownsRow_ext hoV (ext_alloc _ _)) rfl (Sl.new wr (viC ⟨t, 0, 0⟩) _ 1 1 (by omega) (by decide)) rfl hone (by unfold maxLen; omega) (by omega) (by have := hbq.size; simp; omega) ?_; intro v7 w7 hown7 hg7 _)
                    have hoA := ownsRow_ext hoV (ext_alloc wr (.cells (viC ⟨t, 0, 0⟩) 40))
                    have hZA := ownsRow_ext hoZ (ext_alloc wr (.cells (viC ⟨t, 0, 0⟩) 40))
                    have hoZ8 := hZA.kept hg7 (own_ne_own hZA hoA (by decide))
                    have hb8 : Below w.heap.size w w7 := (hbq.trans ((ext_alloc wr (.cells (viC ⟨t, 0, 0⟩) 40)).mono hbq.size)).grown hg7 (by have := hbq.size; simp; omega) (fun q hq => (hoA.lt q hq).1)
                    clear hoA hZA hg7 hbq hoZ hoV hone
                    have hoV : w7.ownsRow w.heap.size 40 3 v7 (m + 1 + 1) (((vs ++ [v]) ++ [(⟨t, 0, 0⟩ : Vis)]).flatMap viL) := by rw [List.flatMap_append]; exact hown7
                    have hoZ := hoZ8
                    have hbq := hb8
                    have HVL : Hid ((vs ++ [v]).length + 1 = m + 1 + 1) := Lib.hid (by rw [List.length_append, List.length_singleton, hvl])
                    have hvl2 : (vs ++ [v]).length = m + 1 := by rw [List.length_append, List.length_singleton, hvl]
                    clear hown7 hoZ8 hb8 hgq2 cp c0
                    obtain ⟨gv, cv, hgv, hgb⟩ := own_form hoV (by omega)
                    subst hgv
                    have hoV2 := own_set (own_set hoV (i := (vs ++ [v]).length * 3 + 1) (List.getElem?_eq_some_iff.1 (viL_get (vs ++ [v]) (⟨t, 0, 0⟩ : Vis)).1).1 (.int .i64 t)) (i := (vs ++ [v]).length * 3 + 2) (by rw [List.length_set]; exact (List.getElem?_eq_some_iff.1 (viL_get (vs ++ [v]) (⟨t, 0, 0⟩ : Vis)).2).1) (.int .i64 ((⟨t, 0, 0⟩ : Vis).n + 1))
                    rw [viL_set, show ((vs ++ [v]) ++ [(⟨(⟨t, 0, 0⟩ : Vis).fr, t, (⟨t, 0, 0⟩ : Vis).n + 1⟩ : Vis)]).flatMap viL = (visX gap (Z.take (j + 1 + 1))).flatMap viL by rw [HNW.out]] at hoV2
                    have hoZ2 := own_other (own_other hoZ hoV (by decide) ((vs ++ [v]).length * 3 + 1) (.int .i64 t)) (own_set hoV (List.getElem?_eq_some_iff.1 (viL_get (vs ++ [v]) (⟨t, 0, 0⟩ : Vis)).1).1 (.int .i64 t)) (by decide) ((vs ++ [v]).length * 3 + 2) (.int .i64 ((⟨t, 0, 0⟩ : Vis).n + 1))
                    have hbS := below_set (below_set hbq hgb (i := (vs ++ [v]).length * 3 + 1) (.int .i64 t)) hgb (i := (vs ++ [v]).length * 3 + 2) (.int .i64 ((⟨t, 0, 0⟩ : Vis).n + 1))
                    have HNL : Hid ((visX gap (Z.take (j + 1 + 1))).length = m + 1 + 1) := Lib.hid (by rw [HNW.out, List.length_append]; exact HVL.out)
                    obtain ⟨c1, f1⟩ := own_cell hoV (viL_get (vs ++ [v]) (⟨t, 0, 0⟩ : Vis)).1
                    obtain ⟨c2, f2⟩ := own_cell hoV (viL_get (vs ++ [v]) (⟨t, 0, 0⟩ : Vis)).2
                    rw [hvl2] at c1 c2 f1 f2 hoV2 hoZ2 hbS
                    go_wp2
                    exact ⟨⟨(j + 1 + 1), m + 1 + 1, by omega, by go_num, HNL, by omega, hoV2, hoZ2, hbS⟩, by simp [intOf]; omega⟩
              · have hTk : Z.take k = Z := List.take_of_length_le (by omega)
                rw [hTk] at hoV HN2
                obtain ⟨gV, cV, rfl⟩ : ∃ a9 c9, u12 = .slice a9 n2 c9 := by
                  rcases hoV.2 with ⟨rfl, h9⟩ | ⟨g, cap, cur, rfl, _⟩
                  · exact ⟨none, 0, by rw [h9]⟩
                  · exact ⟨_, _, rfl⟩
                have HP : Hid (∃ (b : Option Addr) (d : Nat), Ending.returned (.tuple #[.slice gV n2 cV, .int .i64 0]) = .returned (.tuple #[.slice b (visV l key gap).length d, .int .i64 (visF l key gap)]) ∧ Sl wr (.slice b (visV l key gap).length d) (visV l key gap).length ((visV l key gap).flatMap viL) ∧ Below w.heap.size w wr) := Lib.hid (by
                  rw [HN.out, HVN.out, HN2.out]
                  exact ⟨gV, cV, rfl, Sl.ofOwn hoV, hbq⟩)
                clear hoV hoZ hbq HVN HN2 hTk
                go_wp2
                exact bodyPost_ret (v := .tuple #[.slice gV n2 cV, .int .i64 0]) (by simp [results, Try.results8, go_sem]) rfl HP.out
  · have hne : (f != 0) = true := by simpa using h0
    have HN : Hid (visF l key gap = f) := Lib.hid (HF.out.trans (if_pos h0))
    have H0 := Lib.hid h0
    have HV0 : Hid (visV l key gap = []) := Lib.hid (by unfold visV; rw [if_neg (by rw [HN.out]; first | exact H0.out | decide)])
    clear h0
    go_wp2
    exact bodyPost_ret (v := .tuple #[.slice none 0 0, .int .i64 f]) (by simp [results, Try.results8, go_sem]) rfl ⟨none, 0, by rw [HN.out, HV0.out]; rfl, by rw [HV0.out]; exact Sl.nil _, hb1⟩
end Ex
end Go.Proofs.Ytacchooggifnhaa
