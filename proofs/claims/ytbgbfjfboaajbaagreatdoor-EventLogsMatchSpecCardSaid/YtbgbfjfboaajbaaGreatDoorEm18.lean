/- The reference's CheckLog. The reference's sorted: a sort by merging. -/
import Derived.Test.YtbgbfjfboaajbaaGreatDoorEm04
import Derived.Test.YtbgbfjfboaajbaaGreatDoorEm10
import Derived.Test.YtbgbfjfboaajbaaGreatDoorEm11
import Derived.Outline
namespace Go.Proofs.YtbgbfjfboaajbaaGreatDoor
open Go.RowKit
set_option maxHeartbeats 4000000 in
theorem ref7_CheckLog (l : List Ev) (hok : ∀ e ∈ l, e.ok) (a : Option Addr) (c : Nat) (w : World) (hs : Sl w (.slice a l.length c) l.length (l.flatMap evL)) :
    Calls Tryz.prog 7 #[.slice a l.length c] w fun e w' => e = .returned (.int .i64 (checkL l)) ∧ Below w.heap.size w w' := by
  have HOK := Lib.hid hok
  clear hok
  by_cases hl : 20000 < l.length
  · have hc : checkL l = 2 := by unfold checkL; rw [if_pos hl]
    rw [hc]
    clear hc
    go_enter Tryz.func7, Tryz.ntmps7
    go_wp2
    go_ret
    exact ⟨rfl, Below.refl _ _⟩
  have HC : Hid (checkL l = if scanFrom none l ≠ 0 then scanFrom none l else if 50 < (shardsOf l).length then 2 else 0) := by
    have : checkL l = if scanFrom none l ≠ 0 then scanFrom none l else if 50 < (shardsOf l).length then 2 else 0 := by unfold checkL; rw [if_neg hl]
    exact this
  go_enter Tryz.func7, Tryz.ntmps7
  go_wp2
  go_loopw [11] (fun i wr => ∃ k : Nat, k ≤ l.length ∧ i = .int .i64 k ∧ Hid (scanFrom none l = scanFrom (prevE l k) (l.drop k)) ∧ Below w.heap.size w wr) (fun i _ => l.length - (intOf i).toNat)
  case atStart => exact ⟨0, by omega, rfl, rfl, Below.refl _ _⟩
  case round =>
    obtain ⟨k, hk, rfl, HK, hb⟩ := hrel
    by_cases hlt : k < l.length
    · have hgk := List.getElem?_eq_getElem hlt
      have hsok : (l[k]).ok := HOK.out _ (List.getElem_mem _)
      generalize l[k] = s at hgk hsok
      obtain ⟨b, o, rfl, e0, e1, e2, e3, e4, e5, e6, e7⟩ := ev_cells (hs.ext hb) hgk
      have HST := Lib.hid (scan_step (prevE l k) hgk)
      have HP : Hid (prevE l (k + 1) = some s) := hgk
      clear hgk
      go_upto_region 6 with (fail)
      clear e0 e1 e2 e3 e4 e5 e6 e7
      refine wp_box1 fun X hszX hbX hX => ?_
      obtain ⟨_, hX2⟩ := id hX
      clear hszX
      go_wp2_with fail
      refine (ref7_Check s hsok _).mono ?_
      rintro e w2 ⟨rfl, hb2⟩
      have hbx := ext_trans (ext_trans hb hbX) hb2
      have hX3 := hX.ext hb2
      clear hX hX2 hbX hb2
      by_cases hc : checkE s = 0
      · have hne : (checkE s != 0) = false := by simp [hc]
        have HS2 : Hid (scanFrom none l = if (match prevE l k with | none => false | some q => decide (0 ≤ ordE q s)) = true then 8 else scanFrom (some s) (l.drop (k + 1))) := by
          have := HK.out; rw [HST.out, if_neg (by simp [hc])] at this; exact this
        clear hc
        by_cases h0 : k = 0
        · subst h0
          have HS3 : Hid (scanFrom none l = scanFrom (prevE l (0 + 1)) (l.drop (0 + 1))) := by have := HS2.out; simp only [prevE] at this; rw [HP.out]; exact (by simpa using this : scanFrom none l = scanFrom (some s) (l.drop (0 + 1)))
          go_wp2_with fail
          go_quiet (fail)
          go_wp2
          exact ⟨⟨0 + 1, by omega, rfl, HS3, below_drewN hbx _⟩, by simp [intOf]; omega⟩
        · obtain ⟨j, rfl⟩ : ∃ j, k = j + 1 := ⟨k - 1, by omega⟩
          have hgj := List.getElem?_eq_getElem (show j < l.length by omega)
          have HS3 : Hid (scanFrom none l = if decide (0 ≤ ordE l[j] s) = true then 8 else scanFrom (prevE l (j + 1 + 1)) (l.drop (j + 1 + 1))) := by
            have := HS2.out; rw [show prevE l (j + 1) = some l[j] from hgj] at this; rw [HP.out]; exact this
          generalize l[j] = s' at hgj HS3
          obtain ⟨b', o', hb', f0, f1, f2, f3, f4, f5, f6, f7⟩ := ev_cells (hs.ext hbx) hgj
          cases hb'
          clear hgj h0 HS2 HST
          have hj0 : (0 : Int) ≤ (j : Int) := Int.natCast_nonneg _
          have hj1 : (j : Int) < (l.length : Int) := by omega
          have hpos : decide ((0 : Int) < (j : Int) + 1) = true := decide_eq_true (by omega)
          have hwj : IntKind.i64.wrap (j : Int) = (j : Int) := IntWalk.i64_in _ (by omega)
          by_cases ho : 0 ≤ ordE s' s
          · have HF : Hid (checkL l = 8) := by
              have h1 := HS3.out
              rw [if_pos (decide_eq_true ho)] at h1
              have h2 := HC.out
              rw [h1, if_pos (by decide)] at h2; exact h2
            have HD := Lib.hid (show decide (ordE s' s < 0) = false from decide_eq_false (by omega))
            go_wp2_with fail
            go_region_held3 (SE w2 wr.heap.size (evC s) b (o + j * 8) s') (first | exact SE.start hX3 ⟨f0, f1, f2, f3, f4, f5, f6, f7⟩ | exact SE.ext (by with_reducible assumption) (by with_reducible assumption) hX3 | assumption) (first | (go_at_call 20; refine (ref7_ahead s' s _).mono ?_; rw [HD.out]; rintro e w3 ⟨rfl, hb3⟩))
            have hb4 := ext_trans hbx.drew hb3
            clear hwj hpos f0 f1 f2 f3 f4 f5 f6 f7 hb3 hX3
            go_wp2
            go_ret
            exact ⟨ret_int HF.out.symm, hb4⟩
          · have HS4 : Hid (scanFrom none l = scanFrom (prevE l (j + 1 + 1)) (l.drop (j + 1 + 1))) := by
              have h1 := HS3.out
              rw [if_neg (by simp; omega)] at h1; exact h1
            have HD := Lib.hid (show decide (ordE s' s < 0) = true from decide_eq_true (by omega))
            go_wp2_with fail
            go_region_held3 (SE w2 wr.heap.size (evC s) b (o + j * 8) s') (first | exact SE.start hX3 ⟨f0, f1, f2, f3, f4, f5, f6, f7⟩ | exact SE.ext (by with_reducible assumption) (by with_reducible assumption) hX3 | assumption) (first | (go_at_call 20; refine (ref7_ahead s' s _).mono ?_; rw [HD.out]; rintro e w3 ⟨rfl, hb3⟩))
            have hb4 := ext_trans hbx.drew hb3
            clear hwj hpos f0 f1 f2 f3 f4 f5 f6 f7 hb3 hX3
            go_wp2
            go_roundw
            case rel => exact ⟨j + 1 + 1, by omega, by go_num, HS4, hb4⟩
            case measure => simp [intOf]; omega
      · have hne : (checkE s != 0) = true := by simp [hc]
        have HF : Hid (checkL l = checkE s) := by
          have h1 := HK.out
          rw [HST.out, if_pos hc] at h1
          have h2 := HC.out
          rw [h1, if_pos hc] at h2; exact h2
        clear hc
        go_wp2
        go_ret
        exact ⟨ret_int HF.out.symm, hbx⟩
    · have hz : scanFrom none l = 0 := by
        have := HK.out
        rw [List.drop_eq_nil_of_le (by omega)] at this
        rw [this]; rfl
      have hsl := shardsTo_le l l.length
      by_cases h50 : 50 < (shardsOf l).length
      · have HF : Hid (checkL l = 2) := by have h2 := HC.out; rw [hz, if_neg (by simp), if_pos h50] at h2; exact h2
        clear hz
        go_wp2_with fail
        refine (ref7_shards l (by omega) a c _ (hs.ext hb)).mono ?_
        rintro e w2 ⟨a2, c2, rfl, _, hb2⟩
        go_wp2
        go_ret
        exact ⟨ret_int HF.out.symm, ext_trans hb hb2⟩
      · have HF : Hid (checkL l = 0) := by have h2 := HC.out; rw [hz, if_neg (by simp), if_neg h50] at h2; exact h2
        clear hz
        go_wp2_with fail
        refine (ref7_shards l (by omega) a c _ (hs.ext hb)).mono ?_
        rintro e w2 ⟨a2, c2, rfl, _, hb2⟩
        go_wp2
        go_ret
        exact ⟨ret_int HF.out.symm, ext_trans hb hb2⟩
end Go.Proofs.YtbgbfjfboaajbaaGreatDoor
namespace Go.Proofs.YtbgbfjfboaajbaaGreatDoor
open Go.RowKit
abbrev LeE (a b : Ev) : Prop := ordE a b ≤ 0
theorem LeE.trans' {a b c : Ev} (h : LeE a b) (k : LeE b c) : LeE a c := ordE_trans h k
/-- What sorted leaves. -/
def SortedPost (l : List Ev) (w : World) (e : Ending) (w' : World) : Prop :=
  ∃ (R : List Ev) (a : Option Addr) (cap : Nat), e = .returned (.slice a R.length cap) ∧ Sl w' (.slice a R.length cap) R.length (R.flatMap evL) ∧ R.Perm l ∧ R.Pairwise LeE ∧ Below w.heap.size w w'
/-- Where merging stands. -/
structure Mg (l O xa xb : List Ev) : Prop where
  perm : (O ++ (xa ++ xb)).Perm l
  o : O.Pairwise LeE
  a : xa.Pairwise LeE
  b : xb.Pairwise LeE
  oa : ∀ x ∈ O, ∀ y ∈ xa, LeE x y
  ob : ∀ x ∈ O, ∀ y ∈ xb, LeE x y
theorem Mg.start {l xa xb : List Ev} (hp : (xa ++ xb).Perm l) (ha : xa.Pairwise LeE) (hb : xb.Pairwise LeE) : Mg l [] xa xb :=
  ⟨by simpa using hp, List.Pairwise.nil, ha, hb, (fun x hx => by cases hx), (fun x hx => by cases hx)⟩
theorem Mg.left {l O xa xb : List Ev} {p q : Ev} (h : Mg l O (p :: xa) (q :: xb)) (hpq : LeE p q) : Mg l (O ++ [p]) xa (q :: xb) := by
  obtain ⟨a1, a2⟩ := List.pairwise_cons.1 h.a
  obtain ⟨b1, _⟩ := List.pairwise_cons.1 h.b
  refine ⟨by have := h.perm; simpa using this, ?_, a2, h.b, ?_, ?_⟩
  · exact List.pairwise_append.2 ⟨h.o, by simp, fun x hx y hy => by simp at hy; subst hy; exact h.oa x hx y (by simp)⟩
  · intro x hx y hy
    rcases List.mem_append.1 hx with hx | hx
    · exact h.oa x hx y (by simp [hy])
    · simp at hx; subst hx; exact a1 y hy
  · intro x hx y hy
    rcases List.mem_append.1 hx with hx | hx
    · exact h.ob x hx y hy
    · simp at hx; subst hx
      rcases List.mem_cons.1 hy with rfl | hy
      · exact hpq
      · exact LeE.trans' hpq (b1 y hy)
theorem Mg.right {l O xa xb : List Ev} {p q : Ev} (h : Mg l O (p :: xa) (q :: xb)) (hqp : LeE q p) : Mg l (O ++ [q]) (p :: xa) xb := by
  obtain ⟨a1, _⟩ := List.pairwise_cons.1 h.a
  obtain ⟨b1, b2⟩ := List.pairwise_cons.1 h.b
  refine ⟨?_, ?_, h.a, b2, ?_, ?_⟩
  · refine List.Perm.trans ?_ h.perm
    simp only [List.append_assoc, List.singleton_append]
    refine List.Perm.append_left O ?_
    have : (q :: ((p :: xa) ++ xb)).Perm ((p :: xa) ++ q :: xb) := List.perm_middle.symm
    exact this
  · exact List.pairwise_append.2 ⟨h.o, by simp, fun x hx y hy => by simp at hy; subst hy; exact h.ob x hx y (by simp)⟩
  · intro x hx y hy
    rcases List.mem_append.1 hx with hx | hx
    · exact h.oa x hx y hy
    · simp at hx; subst hx
      rcases List.mem_cons.1 hy with rfl | hy
      · exact hqp
      · exact LeE.trans' hqp (a1 y hy)
  · intro x hx y hy
    rcases List.mem_append.1 hx with hx | hx
    · exact h.ob x hx y (by simp [hy])
    · simp at hx; subst hx; exact b1 y hy
theorem Mg.done {l O xa xb : List Ev} (h : Mg l O xa xb) (he : xa = [] ∨ xb = []) : (O ++ xa ++ xb).Perm l ∧ (O ++ xa ++ xb).Pairwise LeE := by
  refine ⟨by have := h.perm; simpa using this, ?_⟩
  rcases he with rfl | rfl
  · rw [List.append_nil]; exact List.pairwise_append.2 ⟨h.o, h.b, h.ob⟩
  · rw [List.append_nil]; exact List.pairwise_append.2 ⟨h.o, h.a, h.oa⟩
theorem sl_take {w : World} {a : Option Addr} {n c : Nat} {l : List Ev} (s : Sl w (.slice a n c) n (l.flatMap evL)) (m : Nat) (hm : m ≤ l.length) (hn : l.length = n) : Sl w (.slice a m c) m ((l.take m).flatMap evL) := by
  obtain ⟨a', cap, hv, h1, h2, h0, h3⟩ := s
  cases hv
  refine ⟨a, c, rfl, by omega, h2, h0, fun i x hx => h3 i x ?_⟩
  have hp : ((l.take m).flatMap evL) <+: (l.flatMap evL) := by
    rw [← List.take_append_drop m l, List.flatMap_append]
    rw [List.take_append_drop m l]
    exact List.prefix_append _ _
  obtain ⟨t, ht⟩ := hp
  rw [← ht]
  have hi := (List.getElem?_eq_some_iff.1 hx).1
  rw [List.getElem?_append_left hi]; exact hx
theorem sl_drop {w : World} {b o n c : Nat} {l : List Ev} (s : Sl w (.slice (some ⟨b, o, none⟩) n c) n (l.flatMap evL)) (m : Nat) (hm : m ≤ l.length) (hn : l.length = n) : Sl w (.slice (some ⟨b, o + m * 8, none⟩) (n - m) (c - m)) (n - m) ((l.drop m).flatMap evL) := by
  obtain ⟨a', cap, hv, h1, h2, h0, h3⟩ := s
  cases hv
  refine ⟨_, _, rfl, by omega, by omega, (fun h => by cases h), fun i x hx => ⟨b, o + m * 8, rfl, ?_⟩⟩
  have hx' : (l.flatMap evL)[m * 8 + i]? = some x := by
    have e : l.flatMap evL = (l.take m).flatMap evL ++ (l.drop m).flatMap evL := by rw [← List.flatMap_append, List.take_append_drop]
    have hlen : ((l.take m).flatMap evL).length = m * 8 := by rw [flat_length evL_len, List.length_take, Nat.min_eq_left hm]
    rw [e, List.getElem?_append_right (by omega), hlen, Nat.add_sub_cancel_left]; exact hx
  obtain ⟨b', o', hb, hc⟩ := h3 _ _ hx'
  cases hb
  rw [Nat.add_assoc]; exact hc
/-- l[1:] -/
def tl1 (a : Option Addr) (c : Nat) : Option Addr := if c = 1 then a else a.map (·.add 8)
theorem sl_tail {w : World} {a : Option Addr} {c : Nat} {x : Ev} {l : List Ev} (s : Sl w (.slice a (l.length + 1) c) (l.length + 1) ((x :: l).flatMap evL)) : Sl w (.slice (tl1 a c) l.length (c - 1)) l.length (l.flatMap evL) := by
  have s' := s
  obtain ⟨a', cap, hv, h1, h2, h0, h3⟩ := s
  cases hv
  obtain ⟨b, o, rfl, _⟩ := h3 0 _ rfl
  unfold tl1
  by_cases hc : c = 1
  · have : l = [] := List.length_eq_zero_iff.1 (by omega)
    subst this
    rw [if_pos hc]
    refine ⟨_, _, rfl, by simp, by omega, (fun h => by cases h), fun i x hx => by simp at hx⟩
  · rw [if_neg hc]
    have := sl_drop (l := x :: l) s' 1 (by simp) rfl
    simp only [Option.map_some, add_spot]
    simpa using this
abbrev SH (W : World) (B b o : Nat) (e : Ev) (w' : World) : Prop := Below B W w' ∧ C8 w' b o e
theorem SH.start {W : World} {B b o : Nat} {e : Ev} (h : C8 W b o e) : SH W B b o e W.drew := ⟨(Below.refl _ _).drew, h⟩
theorem SH.alloc {W w1 : World} {B b o : Nat} {e : Ev} {x : Obj} (h : SH W B b o e w1) (hB : B ≤ W.heap.size) : SH W B b o e (w1.alloc x) :=
  ⟨h.1.trans ((ext_alloc w1 x).mono (Nat.le_trans hB h.1.size)), C8.ext (ext_alloc _ _) h.2⟩
theorem C8.below {w w' : World} {B b o : Nat} {e : Ev} (hb : Below B w w') (hB : b < B) (h : C8 w b o e) : C8 w' b o e := by
  have k : ∀ j, w'.cell? ⟨b, j, none⟩ = w.cell? ⟨b, j, none⟩ := fun j => hb.cell (p := ⟨b, j, none⟩) hB
  exact ⟨(k _).trans h.1, (k _).trans h.2.1, (k _).trans h.2.2.1, (k _).trans h.2.2.2.1, (k _).trans h.2.2.2.2.1, (k _).trans h.2.2.2.2.2.1, (k _).trans h.2.2.2.2.2.2.1, (k _).trans h.2.2.2.2.2.2.2⟩
theorem SH.grown {W w1 w2 : World} {B b o : Nat} {e : Ev} {row : Option Nat} (hg : w1.grownBy w2 row) (h : SH W B b o e w1) (hB : B ≤ W.heap.size) (hb : b < B) (hr : ∀ k, row = some k → B ≤ k) : SH W B b o e w2 := by
  have hx : Below B w1 w2 := (Below.refl B w1).grown hg (Nat.le_trans hB h.1.size) hr
  exact ⟨h.1.trans hx, C8.below hx hb h.2⟩
abbrev SLx (W : World) (w' : World) : Prop := Below W.heap.size W w'
theorem cat3_new (w : World) (a0 a1 a2 : Option Addr) (c0 c1 c2 : Nat) (l0 l1 l2 : List Ev) (s0 : Sl w (.slice a0 l0.length c0) l0.length (l0.flatMap evL)) (s1 : Sl w (.slice a1 l1.length c1) l1.length (l1.flatMap evL)) (s2 : Sl w (.slice a2 l2.length c2) l2.length (l2.flatMap evL)) (ht : l0.length + l1.length + l2.length ≤ 8000000) :
    Calls Tryz.prog 48 #[.slice (some ⟨w.heap.size, 0, none⟩) 3 3] (w.alloc (.cells #[.slice a0 l0.length c0, .slice a1 l1.length c1, .slice a2 l2.length c2] 22)) (CCCatE.CatFrom w (l0 ++ l1 ++ l2)) := by
  have hb : Below w.heap.size w (w.alloc (.cells #[.slice a0 l0.length c0, .slice a1 l1.length c1, .slice a2 l2.length c2] 22)) := by go_grown
  refine (CCCatE.cat_three _ _ a0 a1 a2 _ _ _ c0 c1 c2 l0 l1 l2 _ (by simp) (by simp) (by simp) (s0.ext hb) (s1.ext hb) (s2.ext hb) rfl rfl rfl (by omega)).mono ?_
  rintro e w' ⟨a, cap, rfl, h1, h2, h3⟩
  exact ⟨a, cap, rfl, h1, CCCatE.own_up h2 (by simp), ext_trans hb h3⟩
set_option maxRecDepth 100000 in
set_option maxHeartbeats 8000000 in
theorem ref7_sorted : ∀ (n : Nat) (l : List Ev) (a : Option Addr) (c : Nat) (w : World), l.length < n → l.length ≤ 8000000 → Sl w (.slice a l.length c) l.length (l.flatMap evL) →
    Calls Tryz.prog 49 #[.slice a l.length c] w (SortedPost l w)
  | 0, _, _, _, _, h, _, _ => absurd h (Nat.not_lt_zero _)
  | n + 1, l, a, c, w, hn, hmax, hs => by
    have IH := ref7_sorted n
    by_cases h2 : l.length < 2
    · have HP : Hid (SortedPost l w (.returned (.slice a l.length c)) w) := by
        refine ⟨l, a, c, rfl, hs, List.Perm.refl _, ?_, Below.refl _ _⟩
        match l, h2 with
        | [], _ => exact List.Pairwise.nil
        | [x], _ => simp
      clear IH
      go_enter Tryz.func49, Tryz.ntmps49
      go_wp2
      go_ret
      exact HP.out
    · obtain ⟨a', c', hv, hlc, hcm, h0, h3⟩ := id hs
      cases hv
      have hl0 : 0 < (l.flatMap evL).length := by rw [flat_length evL_len]; omega
      obtain ⟨b, o, rfl, hq⟩ := h3 0 _ (List.getElem?_eq_getElem hl0)
      clear hq h3 h0 hl0
      have IHA : Aside _ := IH
      clear IH
      unfold maxLen at hcm
      obtain ⟨h, hh⟩ : ∃ h, h = l.length / 2 := ⟨_, rfl⟩
      have hhz : (l.length : Int).tdiv 2 = (h : Int) := by rw [Int.tdiv_eq_ediv_of_nonneg (by omega)]; omega
      have sA := sl_take hs h (by omega) rfl
      have sB := sl_drop hs h (by omega) rfl
      have cA := fun W (hb : Below w.heap.size w W) => IHA.out (l.take h) (some ⟨b, o, none⟩) c W (by rw [List.length_take]; omega) (by rw [List.length_take]; omega) (by rw [show (l.take h).length = h by rw [List.length_take]; omega]; exact sA.ext hb)
      have cB := fun W (hb : Below w.heap.size w W) => IHA.out (l.drop h) (some ⟨b, o + h * 8, none⟩) (c - h) W (by rw [List.length_drop]; omega) (by rw [List.length_drop]; omega) (by rw [show (l.drop h).length = l.length - h by rw [List.length_drop]]; exact sB.ext hb)
      rw [show (l.take h).length = h by rw [List.length_take]; omega] at cA
      rw [show (l.drop h).length = l.length - h by rw [List.length_drop]] at cB
      have CA : Aside _ := cA
      have CB : Aside _ := cB
      clear cA cB sA sB IHA
      have hw2 : IntKind.i64.wrap (h : Int) = (h : Int) := by rw [IntKind.wrap_i64]; omega
      have hp0 : (0 : Int) ≤ (h : Int) := by omega
      have hp1 : (h : Int) ≤ (l.length : Int) := by omega
      have hp2 : (h : Int) ≤ (c : Int) := by omega
      have hp3 : ¬ c = h := by omega
      have HH := Lib.hid hh
      clear hh
      go_enter Tryz.func49, Tryz.ntmps49
      go_wp2_with fail
      have tok1 : True := trivial
      go_region_held3 (SLx w) (first | exact (Below.refl _ _).drew | exact ext_trans (by with_reducible assumption) (by with_reducible assumption) | assumption) (first | (have _t := tok1; go_at_call 49; refine (CA.out _ (by with_reducible assumption)).mono ?_; rintro e w1 ⟨R1, a1, c1, rfl, s1, p1, q1, hb1⟩; have P1 := Lib.hid p1; have Q1 := Lib.hid q1; have S1 := Lib.hid s1; clear tok1 p1 q1 s1) | (go_at_call 49; refine (CB.out _ (by with_reducible assumption)).mono ?_; rintro e w2 ⟨R2, a2, c2, rfl, s2, p2, q2, hb2⟩; have P2 := Lib.hid p2; have Q2 := Lib.hid q2; have S2 := Lib.hid s2; clear p2 q2 s2))
      clear hhz hw2 hp0 hp1 hp2 hp3 CA CB
      have hbw : Below w.heap.size w w2 := by assumption
      have t1 : Sl w2 (.slice a1 R1.length c1) R1.length (R1.flatMap evL) := S1.out.ext hb2
      have t2 := S2.out
      have HM : Hid (Mg l [] R1 R2) := Mg.start ((P1.out.append P2.out).trans (by rw [List.take_append_drop])) Q1.out Q2.out
      have hlr : R1.length + R2.length = l.length := by
        have := (P1.out.append P2.out).length_eq
        rw [List.length_append, List.take_append_drop] at this; exact this
      clear S1 S2 P1 P2 Q1 Q2 hb1 hb2 HH
      go_wp2
      go_loopg [3, 4, 5] (l.length + 1) (fun g va vb vo wr => ∃ (xa xb O : List Ev) (aa ab : Option Addr) (ca cb : Nat), va = .slice aa xa.length ca ∧ vb = .slice ab xb.length cb ∧ xa.length + xb.length < g ∧ O.length + xa.length + xb.length ≤ l.length ∧ Sl w2 (.slice aa xa.length ca) xa.length (xa.flatMap evL) ∧ Sl w2 (.slice ab xb.length cb) xb.length (xb.flatMap evL) ∧ wr.ownsRow w2.heap.size 31 8 vo O.length (O.flatMap evL) ∧ Hid (Mg l O xa xb) ∧ Below w2.heap.size w2 wr)
      case atStart => exact ⟨R1, R2, [], a1, a2, c1, c2, rfl, rfl, by omega, by simp; omega, t1, t2, World.ownsRow_nil _ _ _ _, HM, Below.refl _ _⟩
      case round =>
        clear t1 t2 HM
        obtain ⟨xa, xb, O, aa, ab, ca, cb, rfl, rfl, hg, hle, sa, sb, hown, HM, hb⟩ := hrel
        have hla := sa.len_le
        have hlb := sb.len_le
        by_cases hea : xa = []
        · subst hea
          obtain ⟨a5, c5, rfl, _⟩ := Sl.ofOwn hown
          obtain ⟨R, hR⟩ : ∃ R, R = O ++ [] ++ xb := ⟨_, rfl⟩
          have hc := cat3_new wr a5 aa ab c5 ca cb O [] xb (Sl.ofOwn hown) (sa.ext hb) (sb.ext hb) (by simp only [List.length_nil] at *; omega)
          rw [← hR] at hc
          have HR : Hid (R.Perm l ∧ R.Pairwise LeE) := by rw [hR]; exact HM.out.done (.inl rfl)
          clear hR HM hown
          simp only [List.length_nil] at hc ⊢
          go_wp2_with fail
          refine hc.mono ?_
          rintro e w4 ⟨a6, c6, rfl, s6, _, hb6⟩
          have HP : Hid (SortedPost l w (.returned (.slice a6 R.length c6)) w4) := ⟨R, a6, c6, rfl, s6, HR.out.1, HR.out.2, ext_trans (ext_trans hbw hb) hb6⟩
          clear hc
          go_wp2
          go_ret
          exact HP.out
        · by_cases heb : xb = []
          · subst heb
            obtain ⟨a5, c5, rfl, _⟩ := Sl.ofOwn hown
            obtain ⟨R, hR⟩ : ∃ R, R = O ++ xa ++ [] := ⟨_, rfl⟩
            have hc := cat3_new wr a5 aa ab c5 ca cb O xa [] (Sl.ofOwn hown) (sa.ext hb) (sb.ext hb) (by simp only [List.length_nil] at *; omega)
            rw [← hR] at hc
            have HR : Hid (R.Perm l ∧ R.Pairwise LeE) := by rw [hR]; exact HM.out.done (.inr rfl)
            clear hR HM hown
            have hpos : 0 < xa.length := List.length_pos_iff.2 hea
            have hpz : decide ((0 : Int) < (xa.length : Int)) = true := decide_eq_true (by omega)
            clear hea
            simp only [List.length_nil] at hc ⊢
            go_wp2_with fail
            refine hc.mono ?_
            rintro e w4 ⟨a6, c6, rfl, s6, _, hb6⟩
            have HP : Hid (SortedPost l w (.returned (.slice a6 R.length c6)) w4) := ⟨R, a6, c6, rfl, s6, HR.out.1, HR.out.2, ext_trans (ext_trans hbw hb) hb6⟩
            clear hc
            go_wp2
            go_ret
            exact HP.out
          · obtain ⟨p, ya, rfl⟩ := List.exists_cons_of_ne_nil hea
            obtain ⟨q, yb, rfl⟩ := List.exists_cons_of_ne_nil heb
            clear hea heb
            obtain ⟨b1, o1, rfl, e0, e1, e2, e3, e4, e5, e6, e7⟩ := ev_cells (sa.ext hb) (k := 0) (e := p) rfl
            obtain ⟨b2, o2, rfl, f0, f1, f2, f3, f4, f5, f6, f7⟩ := ev_cells (sb.ext hb) (k := 0) (e := q) rfl
            simp only [Nat.zero_mul, Nat.add_zero] at e0 e1 e2 e3 e4 e5 e6 e7 f0 f1 f2 f3 f4 f5 f6 f7
            simp only [List.length_cons] at sa sb hg hle hla hlb ⊢
            have hlt1 : b1 < w2.heap.size := by
              obtain ⟨_, _, hv, _, _, _, h3⟩ := sa
              cases hv
              obtain ⟨_, _, hv, hc⟩ := h3 0 _ rfl
              cases hv
              exact World.block_lt_of_cell? w2 _ hc
            have hlt2 : b2 < w2.heap.size := by
              obtain ⟨_, _, hv, _, _, _, h3⟩ := sb
              cases hv
              obtain ⟨_, _, hv, hc⟩ := h3 0 _ rfl
              cases hv
              exact World.block_lt_of_cell? w2 _ hc
            have hD : ∀ z : Bool, decide (ordE q p < 0) = z → Calls Tryz.prog 20 #[.agg (evC q), .agg (evC p)] wr fun e w' => e = .returned (.bool z) ∧ Below wr.heap.size wr w' := fun z hz => by rw [← hz]; exact ref7_ahead q p wr
            by_cases ho : ordE q p < 0
            · have HD := Lib.hid (decide_eq_true ho)
              have HM2 := Lib.hid (HM.out.right (by show ordE q p ≤ 0; omega))
              clear ho hD
              go_wp2_with fail
              go_region_held3 (S88 wr b2 o2 q b1 o1 p) (first | exact S88.start ⟨f0, f1, f2, f3, f4, f5, f6, f7⟩ ⟨e0, e1, e2, e3, e4, e5, e6, e7⟩ | exact S88.ext (by with_reducible assumption) (by with_reducible assumption) | assumption) (first | (go_at_call 20; refine (ref7_ahead q p _).mono ?_; rw [HD.out]; rintro e w3 ⟨rfl, hb3⟩))
              have hb4 := ext_trans hb.drew hb3
              have hown4 := ownsRow_ext hown (ext_trans (Below.refl wr.heap.size wr).drew hb3)
              have HO := Lib.hid (fun k hk => (hown4.lt k hk).1)
              have hC : C8 w3 b2 o2 q := C8.ext (ext_trans (Below.refl wr.heap.size wr).drew hb3) ⟨f0, f1, f2, f3, f4, f5, f6, f7⟩
              have hsz4 := hb4.size
              have E1 : Hid ((O ++ [q]).flatMap evL = O.flatMap evL ++ (evC q).toList) := by
                have : (O ++ [q]).flatMap evL = O.flatMap evL ++ (evC q).toList := by rw [List.flatMap_append]; simp [evL]
                exact this
              have hone : (1 : Int) ≤ (yb.length : Int) + 1 := by omega
              clear e0 e1 e2 e3 e4 e5 e6 e7 f0 f1 f2 f3 f4 f5 f6 f7 hb3 hown
              by_cases hc1 : cb = 1
              · have hT : Sl w2 (.slice (some ⟨b2, o2, none⟩) yb.length 0) yb.length (yb.flatMap evL) := by
                  have := sl_tail sb
                  unfold tl1 at this
                  rw [if_pos hc1, hc1] at this
                  exact this
                go_wp2_with fail
                go_region_held3 (SH w3 w2.heap.size b2 o2 q) (first | exact SH.start hC | exact SH.alloc (by with_reducible assumption) (by omega) | exact SH.grown hg7 (by with_reducible assumption) (by omega) hlt2 HO.out | assumption) (first | (refine step_append_new rfl _ _ 22 rfl w2.heap.size 31 Tryz.underlying22 CCCatE.e_info rfl (by decide) rfl (ownsRow_ext (ownsRow_ext hown4 (Below.refl _ _).drew) (ext_alloc _ _)) rfl (Sl.new _ (evC q) _ 1 1 (by omega) (by decide)) rfl (evL_one q) (by unfold maxLen; omega) (by omega) (by simp; omega) ?_; intro v7 w7 hown7 hg7))
                all_goals
                  have hown8 : w7.ownsRow w2.heap.size 31 8 v7 (O ++ [q]).length ((O ++ [q]).flatMap evL) := by rw [E1.out, List.length_append]; exact hown7
                  have hS : SH w3 w2.heap.size b2 o2 q w7 := by assumption
                  have hb8 := hb4.trans hS.1
                  clear hown7 hg7 hS hone hC hown4
                  go_wp2
                  go_roundg (ya.length + 1 + (yb.length + 1))
                  case measure => omega
                  case rel => exact ⟨p :: ya, yb, O ++ [q], _, _, _, _, rfl, rfl, by simp only [List.length_cons]; omega, by simp only [List.length_cons, List.length_append, List.length_nil]; omega, sa, hT, hown8, HM2, hb8⟩
              · have hT : Sl w2 (.slice (some ⟨b2, o2 + 8, none⟩) yb.length (cb - 1)) yb.length (yb.flatMap evL) := by
                  have := sl_tail sb
                  unfold tl1 at this
                  rw [if_neg hc1] at this
                  simp only [Option.map_some, add_spot] at this
                  exact this
                go_wp2_with fail
                go_region_held3 (SH w3 w2.heap.size b2 o2 q) (first | exact SH.start hC | exact SH.alloc (by with_reducible assumption) (by omega) | exact SH.grown hg7 (by with_reducible assumption) (by omega) hlt2 HO.out | assumption) (first | (refine step_append_new rfl _ _ 22 rfl w2.heap.size 31 Tryz.underlying22 CCCatE.e_info rfl (by decide) rfl (ownsRow_ext (ownsRow_ext hown4 (Below.refl _ _).drew) (ext_alloc _ _)) rfl (Sl.new _ (evC q) _ 1 1 (by omega) (by decide)) rfl (evL_one q) (by unfold maxLen; omega) (by omega) (by simp; omega) ?_; intro v7 w7 hown7 hg7))
                all_goals
                  have hown8 : w7.ownsRow w2.heap.size 31 8 v7 (O ++ [q]).length ((O ++ [q]).flatMap evL) := by rw [E1.out, List.length_append]; exact hown7
                  have hS : SH w3 w2.heap.size b2 o2 q w7 := by assumption
                  have hb8 := hb4.trans hS.1
                  clear hown7 hg7 hS hone hC hown4
                  go_wp2
                  go_roundg (ya.length + 1 + (yb.length + 1))
                  case measure => omega
                  case rel => exact ⟨p :: ya, yb, O ++ [q], _, _, _, _, rfl, rfl, by simp only [List.length_cons]; omega, by simp only [List.length_cons, List.length_append, List.length_nil]; omega, sa, hT, hown8, HM2, hb8⟩
            · have HD := Lib.hid (decide_eq_false ho)
              have HM2 := Lib.hid (HM.out.left (by show ordE p q ≤ 0; rw [ordE_anti q p]; omega))
              clear ho hD
              go_wp2_with fail
              go_region_held3 (S88 wr b2 o2 q b1 o1 p) (first | exact S88.start ⟨f0, f1, f2, f3, f4, f5, f6, f7⟩ ⟨e0, e1, e2, e3, e4, e5, e6, e7⟩ | exact S88.ext (by with_reducible assumption) (by with_reducible assumption) | assumption) (first | (go_at_call 20; refine (ref7_ahead q p _).mono ?_; rw [HD.out]; rintro e w3 ⟨rfl, hb3⟩))
              have hb4 := ext_trans hb.drew hb3
              have hown4 := ownsRow_ext hown (ext_trans (Below.refl wr.heap.size wr).drew hb3)
              have HO := Lib.hid (fun k hk => (hown4.lt k hk).1)
              have hC : C8 w3 b1 o1 p := C8.ext (ext_trans (Below.refl wr.heap.size wr).drew hb3) ⟨e0, e1, e2, e3, e4, e5, e6, e7⟩
              have hsz4 := hb4.size
              have E1 : Hid ((O ++ [p]).flatMap evL = O.flatMap evL ++ (evC p).toList) := by
                have : (O ++ [p]).flatMap evL = O.flatMap evL ++ (evC p).toList := by rw [List.flatMap_append]; simp [evL]
                exact this
              have hone : (1 : Int) ≤ (ya.length : Int) + 1 := by omega
              clear e0 e1 e2 e3 e4 e5 e6 e7 f0 f1 f2 f3 f4 f5 f6 f7 hb3 hown
              by_cases hc1 : ca = 1
              · have hT : Sl w2 (.slice (some ⟨b1, o1, none⟩) ya.length 0) ya.length (ya.flatMap evL) := by
                  have := sl_tail sa
                  unfold tl1 at this
                  rw [if_pos hc1, hc1] at this
                  exact this
                go_wp2_with fail
                go_region_held3 (SH w3 w2.heap.size b1 o1 p) (first | exact SH.start hC | exact SH.alloc (by with_reducible assumption) (by omega) | exact SH.grown hg7 (by with_reducible assumption) (by omega) hlt1 HO.out | assumption) (first | (refine step_append_new rfl _ _ 22 rfl w2.heap.size 31 Tryz.underlying22 CCCatE.e_info rfl (by decide) rfl (ownsRow_ext (ownsRow_ext hown4 (Below.refl _ _).drew) (ext_alloc _ _)) rfl (Sl.new _ (evC p) _ 1 1 (by omega) (by decide)) rfl (evL_one p) (by unfold maxLen; omega) (by omega) (by simp; omega) ?_; intro v7 w7 hown7 hg7))
                all_goals
                  have hown8 : w7.ownsRow w2.heap.size 31 8 v7 (O ++ [p]).length ((O ++ [p]).flatMap evL) := by rw [E1.out, List.length_append]; exact hown7
                  have hS : SH w3 w2.heap.size b1 o1 p w7 := by assumption
                  have hb8 := hb4.trans hS.1
                  clear hown7 hg7 hS hone hC hown4
                  go_wp2
                  go_roundg (ya.length + 1 + (yb.length + 1))
                  case measure => omega
                  case rel => exact ⟨ya, q :: yb, O ++ [p], _, _, _, _, rfl, rfl, by simp only [List.length_cons]; omega, by simp only [List.length_cons, List.length_append, List.length_nil]; omega, hT, sb, hown8, HM2, hb8⟩
              · have hT : Sl w2 (.slice (some ⟨b1, o1 + 8, none⟩) ya.length (ca - 1)) ya.length (ya.flatMap evL) := by
                  have := sl_tail sa
                  unfold tl1 at this
                  rw [if_neg hc1] at this
                  simp only [Option.map_some, add_spot] at this
                  exact this
                go_wp2_with fail
                go_region_held3 (SH w3 w2.heap.size b1 o1 p) (first | exact SH.start hC | exact SH.alloc (by with_reducible assumption) (by omega) | exact SH.grown hg7 (by with_reducible assumption) (by omega) hlt1 HO.out | assumption) (first | (refine step_append_new rfl _ _ 22 rfl w2.heap.size 31 Tryz.underlying22 CCCatE.e_info rfl (by decide) rfl (ownsRow_ext (ownsRow_ext hown4 (Below.refl _ _).drew) (ext_alloc _ _)) rfl (Sl.new _ (evC p) _ 1 1 (by omega) (by decide)) rfl (evL_one p) (by unfold maxLen; omega) (by omega) (by simp; omega) ?_; intro v7 w7 hown7 hg7))
                all_goals
                  have hown8 : w7.ownsRow w2.heap.size 31 8 v7 (O ++ [p]).length ((O ++ [p]).flatMap evL) := by rw [E1.out, List.length_append]; exact hown7
                  have hS : SH w3 w2.heap.size b1 o1 p w7 := by assumption
                  have hb8 := hb4.trans hS.1
                  clear hown7 hg7 hS hone hC hown4
                  go_wp2
                  go_roundg (ya.length + 1 + (yb.length + 1))
                  case measure => omega
                  case rel => exact ⟨ya, q :: yb, O ++ [p], _, _, _, _, rfl, rfl, by simp only [List.length_cons]; omega, by simp only [List.length_cons, List.length_append, List.length_nil]; omega, hT, sb, hown8, HM2, hb8⟩
end Go.Proofs.YtbgbfjfboaajbaaGreatDoor
