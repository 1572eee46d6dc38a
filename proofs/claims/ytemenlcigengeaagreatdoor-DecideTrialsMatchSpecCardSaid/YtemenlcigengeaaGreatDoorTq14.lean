/- sooner, inOrder of the reference: a sort by merging, stable. Printed by gen_trlr.py. -/
import Derived.Test.YtemenlcigengeaaGreatDoorTq04
import Derived.Outline
namespace Go.Proofs.YtemenlcigengeaaGreatDoor
open Go.RowKit
namespace Tr
theorem less_of (a b : ByteArray) : Op.bytesLess a.toList b.toList = decide (cmpS a b = -1) := by
  rw [ByteArray.toList_eq, ByteArray.toList_eq, less_iff, decide_eq_decide]
  have := cmpS_tri a b
  unfold cmpS at *
  omega
theorem cmpT_neg (a b : Sbj) : cmpT a b < 0 ↔ a.time < b.time ∨ a.time = b.time ∧ cmpS a.key b.key < 0 := by
  unfold cmpT orI
  by_cases h : a.time < b.time
  · have e : cmpI a.time b.time = -1 := by unfold cmpI; rw [if_pos h]
    rw [e]; simp [h]
  · by_cases h2 : b.time < a.time
    · have e : cmpI a.time b.time = 1 := by unfold cmpI; rw [if_neg h, if_pos h2]
      rw [e]; simp; omega
    · have e : cmpI a.time b.time = 0 := by unfold cmpI; rw [if_neg h, if_neg h2]
      rw [e]; simp [h]; omega
set_option maxHeartbeats 2000000 in
theorem sooner_at (a b : Sbj) (w : World) : Calls Tryz.prog 65 #[.agg (sbC a), .agg (sbC b)] w fun e w' => e = .returned (.bool (decide (cmpT a b < 0))) ∧ Below w.heap.size w w' := by
  have hO := cmpT_neg a b
  have h1 := less_of a.key b.key
  rcases Int.lt_trichotomy a.time b.time with h | h | h
  · rw [show decide (cmpT a b < 0) = true by simp [hO, h]]
    clear hO h1
    go_enter Tryz.func65, Tryz.ntmps65
    go_wp2
    go_ret
    exact ⟨rfl, by go_grown⟩
  · have hd : decide (cmpT a b < 0) = Op.bytesLess a.key.toList b.key.toList := by
      rw [h1]
      have h3 := cmpS_tri a.key b.key
      rw [decide_eq_decide, hO, h]
      simp
      omega
    rw [hd]
    have hn : ¬ a.time < b.time := by omega
    clear hO h1 hd
    go_enter Tryz.func65, Tryz.ntmps65
    go_wp2
    go_ret
    exact ⟨rfl, by go_grown⟩
  · rw [show decide (cmpT a b < 0) = false by simp [hO]; omega]
    have hn : ¬ a.time < b.time := by omega
    have hn2 : ¬ a.time = b.time := by omega
    clear hO h1
    go_enter Tryz.func65, Tryz.ntmps65
    go_wp2
    go_ret
    exact ⟨rfl, by go_grown⟩
/-- What inOrder leaves. -/
def OrdPost (l : List Sbj) (w : World) (e : Ending) (w' : World) : Prop :=
  ∃ (R : List Sbj) (a : Option Addr) (cap : Nat), e = .returned (.slice a R.length cap) ∧ Sl w' (.slice a R.length cap) R.length (R.flatMap sbL) ∧ R.length = l.length ∧ Stable l R ∧ Below w.heap.size w w'
abbrev C8 (w' : World) (b o : Nat) (e : Sbj) : Prop :=
  w'.cell? ⟨b, o, none⟩ = some (.string e.key) ∧ w'.cell? ⟨b, o + 1, none⟩ = some (.int .i64 e.time) ∧ w'.cell? ⟨b, o + 2, none⟩ = some (.int .i64 e.arm) ∧ w'.cell? ⟨b, o + 3, none⟩ = some (.int .i64 e.count) ∧
    w'.cell? ⟨b, o + 4, none⟩ = some (.int .i64 e.sum) ∧ w'.cell? ⟨b, o + 5, none⟩ = some (.int .i64 e.early) ∧ w'.cell? ⟨b, o + 6, none⟩ = some (.int .i64 e.earlySum) ∧ w'.cell? ⟨b, o + 7, none⟩ = some (.bool e.closed)
theorem C8.ext {w w' : World} {b o : Nat} {e : Sbj} (hb : Below w.heap.size w w') (h : C8 w b o e) : C8 w' b o e := by
  have hlt : b < w.heap.size := World.block_lt_of_cell? _ _ h.1
  have k : ∀ j, w'.cell? ⟨b, j, none⟩ = w.cell? ⟨b, j, none⟩ := fun j => hb.cell (p := ⟨b, j, none⟩) hlt
  exact ⟨(k _).trans h.1, (k _).trans h.2.1, (k _).trans h.2.2.1, (k _).trans h.2.2.2.1, (k _).trans h.2.2.2.2.1, (k _).trans h.2.2.2.2.2.1, (k _).trans h.2.2.2.2.2.2.1, (k _).trans h.2.2.2.2.2.2.2⟩
abbrev S88 (W : World) (b1 o1 : Nat) (e1 : Sbj) (b2 o2 : Nat) (e2 : Sbj) (w' : World) : Prop :=
  Below W.heap.size W w' ∧ C8 w' b1 o1 e1 ∧ C8 w' b2 o2 e2
theorem S88.start {W : World} {b1 o1 : Nat} {e1 : Sbj} {b2 o2 : Nat} {e2 : Sbj} (h1 : C8 W b1 o1 e1) (h2 : C8 W b2 o2 e2) : S88 W b1 o1 e1 b2 o2 e2 W.drew := ⟨(Below.refl _ _).drew, h1, h2⟩
theorem S88.ext {W w1 w2 : World} {b1 o1 : Nat} {e1 : Sbj} {b2 o2 : Nat} {e2 : Sbj} (hb : Below w1.heap.size w1 w2) (h : S88 W b1 o1 e1 b2 o2 e2 w1) : S88 W b1 o1 e1 b2 o2 e2 w2 :=
  ⟨ext_trans h.1 hb, C8.ext hb h.2.1, C8.ext hb h.2.2⟩
theorem sl_take {w : World} {a : Option Addr} {n c : Nat} {l : List Sbj} (s : Sl w (.slice a n c) n (l.flatMap sbL)) (m : Nat) (hm : m ≤ l.length) (hn : l.length = n) : Sl w (.slice a m c) m ((l.take m).flatMap sbL) := by
  obtain ⟨a', cap, hv, h1, h2, h0, h3⟩ := s
  cases hv
  refine ⟨a, c, rfl, by omega, h2, h0, fun i x hx => h3 i x ?_⟩
  have hp : ((l.take m).flatMap sbL) <+: (l.flatMap sbL) := by
    rw [← List.take_append_drop m l, List.flatMap_append]
    rw [List.take_append_drop m l]
    exact List.prefix_append _ _
  obtain ⟨t, ht⟩ := hp
  rw [← ht]
  have hi := (List.getElem?_eq_some_iff.1 hx).1
  rw [List.getElem?_append_left hi]; exact hx
theorem sl_drop {w : World} {b o n c : Nat} {l : List Sbj} (s : Sl w (.slice (some ⟨b, o, none⟩) n c) n (l.flatMap sbL)) (m : Nat) (hm : m ≤ l.length) (hn : l.length = n) : Sl w (.slice (some ⟨b, o + m * 8, none⟩) (n - m) (c - m)) (n - m) ((l.drop m).flatMap sbL) := by
  obtain ⟨a', cap, hv, h1, h2, h0, h3⟩ := s
  cases hv
  refine ⟨_, _, rfl, by omega, by omega, (fun h => by cases h), fun i x hx => ⟨b, o + m * 8, rfl, ?_⟩⟩
  have hx' : (l.flatMap sbL)[m * 8 + i]? = some x := by
    have e : l.flatMap sbL = (l.take m).flatMap sbL ++ (l.drop m).flatMap sbL := by rw [← List.flatMap_append, List.take_append_drop]
    have hlen : ((l.take m).flatMap sbL).length = m * 8 := by rw [flat_length sbL_len, List.length_take, Nat.min_eq_left hm]
    rw [e, List.getElem?_append_right (by omega), hlen, Nat.add_sub_cancel_left]; exact hx
  obtain ⟨b', o', hb, hc⟩ := h3 _ _ hx'
  cases hb
  rw [Nat.add_assoc]; exact hc
/-- l[1:] -/
def tl1 (a : Option Addr) (c : Nat) : Option Addr := if c = 1 then a else a.map (·.add 8)
theorem sl_tail {w : World} {a : Option Addr} {c : Nat} {x : Sbj} {l : List Sbj} (s : Sl w (.slice a (l.length + 1) c) (l.length + 1) ((x :: l).flatMap sbL)) : Sl w (.slice (tl1 a c) l.length (c - 1)) l.length (l.flatMap sbL) := by
  have s' := s
  obtain ⟨a', cap, hv, h1, h2, h0, h3⟩ := s
  cases hv
  obtain ⟨b, o, rfl, _⟩ := h3 0 _ rfl
  unfold tl1
  by_cases hc : c = 1
  · have : l = [] := List.length_eq_zero_iff.1 (by omega)
    subst this
    rw [if_pos hc]
    refine ⟨_, _, rfl, by simp, by omega, (fun h => by cases h), fun i x hx => by simp at hx⟩
  · rw [if_neg hc]
    have := sl_drop (l := x :: l) s' 1 (by simp) rfl
    simp only [Option.map_some, add_spot]
    simpa using this
abbrev SH (W : World) (B b o : Nat) (e : Sbj) (w' : World) : Prop := Below B W w' ∧ C8 w' b o e
theorem SH.start {W : World} {B b o : Nat} {e : Sbj} (h : C8 W b o e) : SH W B b o e W.drew := ⟨(Below.refl _ _).drew, h⟩
theorem SH.alloc {W w1 : World} {B b o : Nat} {e : Sbj} {x : Obj} (h : SH W B b o e w1) (hB : B ≤ W.heap.size) : SH W B b o e (w1.alloc x) :=
  ⟨h.1.trans ((ext_alloc w1 x).mono (Nat.le_trans hB h.1.size)), C8.ext (ext_alloc _ _) h.2⟩
theorem C8.below {w w' : World} {B b o : Nat} {e : Sbj} (hb : Below B w w') (hB : b < B) (h : C8 w b o e) : C8 w' b o e := by
  have k : ∀ j, w'.cell? ⟨b, j, none⟩ = w.cell? ⟨b, j, none⟩ := fun j => hb.cell (p := ⟨b, j, none⟩) hB
  exact ⟨(k _).trans h.1, (k _).trans h.2.1, (k _).trans h.2.2.1, (k _).trans h.2.2.2.1, (k _).trans h.2.2.2.2.1, (k _).trans h.2.2.2.2.2.1, (k _).trans h.2.2.2.2.2.2.1, (k _).trans h.2.2.2.2.2.2.2⟩
theorem SH.grown {W w1 w2 : World} {B b o : Nat} {e : Sbj} {row : Option Nat} (hg : w1.grownBy w2 row) (h : SH W B b o e w1) (hB : B ≤ W.heap.size) (hb : b < B) (hr : ∀ k, row = some k → B ≤ k) : SH W B b o e w2 := by
  have hx : Below B w1 w2 := (Below.refl B w1).grown hg (Nat.le_trans hB h.1.size) hr
  exact ⟨h.1.trans hx, C8.below hx hb h.2⟩
abbrev SLx (W : World) (w' : World) : Prop := Below W.heap.size W w'
set_option maxRecDepth 100000 in
set_option maxHeartbeats 8000000 in
theorem inOrder_at : ∀ (n : Nat) (l : List Sbj) (a : Option Addr) (c : Nat) (w : World), l.length < n → l.length ≤ 8000000 → Sl w (.slice a l.length c) l.length (l.flatMap sbL) →
    Calls Tryz.prog 36 #[.slice a l.length c] w (OrdPost l w)
  | 0, _, _, _, _, h, _, _ => absurd h (Nat.not_lt_zero _)
  | n + 1, l, a, c, w, hn, hmax, hs => by
    have IH := inOrder_at n
    by_cases h2 : l.length < 2
    · have HP : Hid (OrdPost l w (.returned (.slice a l.length c)) w) := by
        refine ⟨l, a, c, rfl, hs, rfl, ?_, Below.refl _ _⟩
        match l, h2 with
        | [], _ => exact Stable.nil
        | [x], _ => exact Stable.one x
      clear IH
      go_enter Tryz.func36, Tryz.ntmps36
      go_wp2
      go_ret
      exact HP.out
    · obtain ⟨a', c', hv, hlc, hcm, h0, h3⟩ := id hs
      cases hv
      have hl0 : 0 < (l.flatMap sbL).length := by rw [flat_length sbL_len]; omega
      obtain ⟨b, o, rfl, hq⟩ := h3 0 _ (List.getElem?_eq_getElem hl0)
      clear hq h3 h0 hl0
      have IHA : Aside _ := IH
      clear IH
      unfold maxLen at hcm
      obtain ⟨h, hh⟩ : ∃ h, h = l.length / 2 := ⟨_, rfl⟩
      have hhz : (l.length : Int).tdiv 2 = (h : Int) := by rw [Int.tdiv_eq_ediv_of_nonneg (by omega)]; omega
      have sA := sl_take hs h (by omega) rfl
      have sB := sl_drop hs h (by omega) rfl
      have cA := fun W (hb : Below w.heap.size w W) => IHA.out (l.take h) (some ⟨b, o, none⟩) c W (by rw [List.length_take]; omega) (by rw [List.length_take]; omega) (by rw [show (l.take h).length = h by rw [List.length_take]; omega]; exact sA.ext hb)
      have cB := fun W (hb : Below w.heap.size w W) => IHA.out (l.drop h) (some ⟨b, o + h * 8, none⟩) (c - h) W (by rw [List.length_drop]; omega) (by rw [List.length_drop]; omega) (by rw [show (l.drop h).length = l.length - h by rw [List.length_drop]]; exact sB.ext hb)
      rw [show (l.take h).length = h by rw [List.length_take]; omega] at cA
      rw [show (l.drop h).length = l.length - h by rw [List.length_drop]] at cB
      have CA : Aside _ := cA
      have CB : Aside _ := cB
      clear cA cB sA sB IHA
      have hw2 : IntKind.i64.wrap (h : Int) = (h : Int) := by rw [IntKind.wrap_i64]; omega
      have hp0 : (0 : Int) ≤ (h : Int) := by omega
      have hp1 : (h : Int) ≤ (l.length : Int) := by omega
      have hp2 : (h : Int) ≤ (c : Int) := by omega
      have hp3 : ¬ c = h := by omega
      have HH := Lib.hid hh
      clear hh
      go_enter Tryz.func36, Tryz.ntmps36
      go_wp2_with fail
      have tok1 : True := trivial
      go_region_held3 (SLx w) (first | exact (Below.refl _ _).drew | exact ext_trans (by with_reducible assumption) (by with_reducible assumption) | assumption) (first | (have _t := tok1; go_at_call 36; refine (CA.out _ (by with_reducible assumption)).mono ?_; rintro e w1 ⟨R1, a1, c1, rfl, s1, p1, q1, hb1⟩; have P1 := Lib.hid p1; have Q1 := Lib.hid q1; have S1 := Lib.hid s1; clear tok1 p1 q1 s1) | (go_at_call 36; refine (CB.out _ (by with_reducible assumption)).mono ?_; rintro e w2 ⟨R2, a2, c2, rfl, s2, p2, q2, hb2⟩; have P2 := Lib.hid p2; have Q2 := Lib.hid q2; have S2 := Lib.hid s2; clear p2 q2 s2))
      clear hhz hw2 hp0 hp1 hp2 hp3 CA CB
      have hbw : Below w.heap.size w w2 := by assumption
      have t1 : Sl w2 (.slice a1 R1.length c1) R1.length (R1.flatMap sbL) := S1.out.ext hb2
      have t2 := S2.out
      have HM : Hid (Mg l [] R1 R2) := Mg.start (List.take_append_drop h l) Q1.out Q2.out
      have hlr : R1.length + R2.length = l.length := by
        have h9 := P1.out
        have h8 := P2.out
        have h7 := HH.out
        rw [List.length_take] at h9
        rw [List.length_drop] at h8
        omega
      clear S1 S2 P1 P2 Q1 Q2 hb1 hb2 HH
      go_wp2
      go_loopg [3, 4, 5] (l.length + 1) (fun g va vb vo wr => ∃ (xa xb O : List Sbj) (aa ab : Option Addr) (ca cb : Nat), va = .slice aa xa.length ca ∧ vb = .slice ab xb.length cb ∧ xa.length + xb.length < g ∧ O.length + xa.length + xb.length = l.length ∧ Sl w2 (.slice aa xa.length ca) xa.length (xa.flatMap sbL) ∧ Sl w2 (.slice ab xb.length cb) xb.length (xb.flatMap sbL) ∧ wr.ownsRow w2.heap.size 57 8 vo O.length (O.flatMap sbL) ∧ Hid (Mg l O xa xb) ∧ Below w2.heap.size w2 wr)
      case atStart => exact ⟨R1, R2, [], a1, a2, c1, c2, rfl, rfl, by omega, by simp; omega, t1, t2, World.ownsRow_nil _ _ _ _, HM, Below.refl _ _⟩
      case round =>
        clear t1 t2 HM
        obtain ⟨xa, xb, O, aa, ab, ca, cb, rfl, rfl, hg, hle, sa, sb, hown, HM, hb⟩ := hrel
        have hla := sa.len_le
        have hlb := sb.len_le
        by_cases hea : xa = []
        · subst hea
          obtain ⟨a5, c5, rfl, _⟩ := Sl.ofOwn hown
          have HR : Hid (Stable l (O ++ [] ++ xb)) := HM.out.done (.inl rfl)
          obtain ⟨R, hR⟩ : ∃ R, R = O ++ [] ++ xb := ⟨_, rfl⟩
          have HRL : Hid (R.length = O.length + 0 + xb.length) := Lib.hid (by rw [hR, List.length_append, List.length_append]; rfl)
          have HRF : Hid (R.flatMap sbL = O.flatMap sbL ++ ([] : List Sbj).flatMap sbL ++ (xb : List Sbj).flatMap sbL) := Lib.hid (by rw [hR, List.flatMap_append, List.flatMap_append])
          rw [← hR] at HR
          have HSB := Lib.hid sb
          have s1 := sa.ext hb
          clear HM hR
          simp only [List.length_nil] at s1 HSB hle hla hlb ⊢
          go_wp2_with (at_builtin; first | (refine wpList_append_sl rfl _ _ 26 rfl w2.heap.size 57 Tryz.underlying26 sbj_info rfl (by decide) rfl hown rfl s1 (flat_length sbL_len _) (sbs_one _) (by unfold maxLen; omega) (by omega) hb.size ?_; intro v7 w7 hown7 hg7 _; have hb7 := Rw.below_own hb hown hg7 hb.size; have s2 := HSB.out.ext hb7; clear hown hg7 s1) | (refine wpList_append_sl rfl _ _ 26 rfl w2.heap.size 57 Tryz.underlying26 sbj_info rfl (by decide) rfl hown7 rfl s2 (flat_length sbL_len _) (sbs_one _) (by unfold maxLen; omega) (by omega) hb7.size ?_; intro v8 w8 hown8 hg8 _; have hb8 := Rw.below_own hb7 hown7 hg8 hb7.size; clear hown7 hg8 s2))
          obtain ⟨a6, c6, rfl, s6⟩ := Sl.ofOwn hown8
          have HP : Hid (OrdPost l w (.returned (.slice a6 (O.length + 0 + xb.length) c6)) w8) := Lib.hid ⟨R, a6, c6, by rw [HRL.out], by rw [HRL.out, HRF.out]; exact Sl.ofOwn hown8, by rw [HRL.out]; omega, HR.out, ext_trans hbw hb8⟩
          clear hown8 s6
          go_wp2
          go_ret
          exact HP.out
        · by_cases heb : xb = []
          · subst heb
            obtain ⟨a5, c5, rfl, _⟩ := Sl.ofOwn hown
            have HR : Hid (Stable l (O ++ xa ++ [])) := HM.out.done (.inr rfl)
            obtain ⟨R, hR⟩ : ∃ R, R = O ++ xa ++ [] := ⟨_, rfl⟩
            have HRL : Hid (R.length = O.length + xa.length + 0) := Lib.hid (by rw [hR, List.length_append, List.length_append]; rfl)
            have HRF : Hid (R.flatMap sbL = O.flatMap sbL ++ (xa : List Sbj).flatMap sbL ++ ([] : List Sbj).flatMap sbL) := Lib.hid (by rw [hR, List.flatMap_append, List.flatMap_append])
            rw [← hR] at HR
            have HSB := Lib.hid sb
            have hpos : 0 < xa.length := List.length_pos_iff.2 hea
            have hpz : decide ((0 : Int) < (xa.length : Int)) = true := decide_eq_true (by omega)
            have s1 := sa.ext hb
            clear HM hR hea
            simp only [List.length_nil] at s1 HSB hle hla hlb ⊢
            go_wp2_with (at_builtin; first | (refine wpList_append_sl rfl _ _ 26 rfl w2.heap.size 57 Tryz.underlying26 sbj_info rfl (by decide) rfl hown rfl s1 (flat_length sbL_len _) (sbs_one _) (by unfold maxLen; omega) (by omega) hb.size ?_; intro v7 w7 hown7 hg7 _; have hb7 := Rw.below_own hb hown hg7 hb.size; have s2 := HSB.out.ext hb7; clear hown hg7 s1) | (refine wpList_append_sl rfl _ _ 26 rfl w2.heap.size 57 Tryz.underlying26 sbj_info rfl (by decide) rfl hown7 rfl s2 (flat_length sbL_len _) (sbs_one _) (by unfold maxLen; omega) (by omega) hb7.size ?_; intro v8 w8 hown8 hg8 _; have hb8 := Rw.below_own hb7 hown7 hg8 hb7.size; clear hown7 hg8 s2))
            obtain ⟨a6, c6, rfl, s6⟩ := Sl.ofOwn hown8
            have HP : Hid (OrdPost l w (.returned (.slice a6 (O.length + xa.length + 0) c6)) w8) := Lib.hid ⟨R, a6, c6, by rw [HRL.out], by rw [HRL.out, HRF.out]; exact Sl.ofOwn hown8, by rw [HRL.out]; omega, HR.out, ext_trans hbw hb8⟩
            clear hown8 s6
            go_wp2
            go_ret
            exact HP.out
          · obtain ⟨p, ya, rfl⟩ := List.exists_cons_of_ne_nil hea
            obtain ⟨q, yb, rfl⟩ := List.exists_cons_of_ne_nil heb
            clear hea heb
            obtain ⟨b1, o1, rfl, e0, e1, e2, e3, e4, e5, e6, e7⟩ := sb_cells (sa.ext hb) (k := 0) (e := p) rfl
            obtain ⟨b2, o2, rfl, f0, f1, f2, f3, f4, f5, f6, f7⟩ := sb_cells (sb.ext hb) (k := 0) (e := q) rfl
            simp only [Nat.zero_mul, Nat.add_zero] at e0 e1 e2 e3 e4 e5 e6 e7 f0 f1 f2 f3 f4 f5 f6 f7
            simp only [List.length_cons] at sa sb hg hle hla hlb ⊢
            have hlt1 : b1 < w2.heap.size := by
              obtain ⟨_, _, hv, _, _, _, h3⟩ := sa
              cases hv
              obtain ⟨_, _, hv, hc⟩ := h3 0 _ rfl
              cases hv
              exact World.block_lt_of_cell? w2 _ hc
            have hlt2 : b2 < w2.heap.size := by
              obtain ⟨_, _, hv, _, _, _, h3⟩ := sb
              cases hv
              obtain ⟨_, _, hv, hc⟩ := h3 0 _ rfl
              cases hv
              exact World.block_lt_of_cell? w2 _ hc
            have hD : ∀ z : Bool, decide (cmpT q p < 0) = z → Calls Tryz.prog 65 #[.agg (sbC q), .agg (sbC p)] wr fun e w' => e = .returned (.bool z) ∧ Below wr.heap.size wr w' := fun z hz => by rw [← hz]; exact sooner_at q p wr
            by_cases ho : cmpT q p < 0
            · have HD := Lib.hid (decide_eq_true ho)
              have HM2 := Lib.hid (HM.out.right ho)
              clear ho hD
              go_wp2_with fail
              go_region_held3 (S88 wr b2 o2 q b1 o1 p) (first | exact S88.start ⟨f0, f1, f2, f3, f4, f5, f6, f7⟩ ⟨e0, e1, e2, e3, e4, e5, e6, e7⟩ | exact S88.ext (by with_reducible assumption) (by with_reducible assumption) | assumption) (first | (go_at_call 65; refine (sooner_at q p _).mono ?_; rw [HD.out]; rintro e w3 ⟨rfl, hb3⟩))
              have hb4 := ext_trans hb.drew hb3
              have hown4 := ownsRow_ext hown (ext_trans (Below.refl wr.heap.size wr).drew hb3)
              have HO := Lib.hid (fun k hk => (hown4.lt k hk).1)
              have hC : C8 w3 b2 o2 q := C8.ext (ext_trans (Below.refl wr.heap.size wr).drew hb3) ⟨f0, f1, f2, f3, f4, f5, f6, f7⟩
              have hsz4 := hb4.size
              have E1 : Hid ((O ++ [q]).flatMap sbL = O.flatMap sbL ++ (sbC q).toList) := by
                have : (O ++ [q]).flatMap sbL = O.flatMap sbL ++ (sbC q).toList := by rw [List.flatMap_append]; simp [sbL]
                exact this
              have hone : (1 : Int) ≤ (yb.length : Int) + 1 := by omega
              clear e0 e1 e2 e3 e4 e5 e6 e7 f0 f1 f2 f3 f4 f5 f6 f7 hb3 hown
              by_cases hc1 : cb = 1
              · have hT : Sl w2 (.slice (some ⟨b2, o2, none⟩) yb.length 0) yb.length (yb.flatMap sbL) := by
                  have := sl_tail sb
                  unfold tl1 at this
                  rw [if_pos hc1, hc1] at this
                  exact this
                go_wp2_with fail
                go_region_held3 (SH w3 w2.heap.size b2 o2 q) (first | exact SH.start hC | exact SH.alloc (by with_reducible assumption) (by omega) | exact SH.grown hg7 (by with_reducible assumption) (by omega) hlt2 HO.out | assumption) (first | (refine step_append_new rfl _ _ 26 rfl w2.heap.size 57 Tryz.underlying26 sbj_info rfl (by decide) rfl (ownsRow_ext (ownsRow_ext hown4 (Below.refl _ _).drew) (ext_alloc _ _)) rfl (Sl.new _ (sbC q) _ 1 1 (by omega) (by decide)) rfl (sbL_one q) (by unfold maxLen; omega) (by omega) (by simp; omega) ?_; intro v7 w7 hown7 hg7))
                all_goals
                  have hown8 : w7.ownsRow w2.heap.size 57 8 v7 (O ++ [q]).length ((O ++ [q]).flatMap sbL) := by rw [E1.out, List.length_append]; exact hown7
                  have hS : SH w3 w2.heap.size b2 o2 q w7 := by assumption
                  have hb8 := hb4.trans hS.1
                  clear hown7 hg7 hS hone hC hown4
                  go_wp2
                  go_roundg (ya.length + 1 + (yb.length + 1))
                  case measure => omega
                  case rel => exact ⟨p :: ya, yb, O ++ [q], _, _, _, _, rfl, rfl, by simp only [List.length_cons]; omega, by simp only [List.length_cons, List.length_append, List.length_nil]; omega, sa, hT, hown8, HM2, hb8⟩
              · have hT : Sl w2 (.slice (some ⟨b2, o2 + 8, none⟩) yb.length (cb - 1)) yb.length (yb.flatMap sbL) := by
                  have := sl_tail sb
                  unfold tl1 at this
                  rw [if_neg hc1] at this
                  simp only [Option.map_some, add_spot] at this
                  exact this
                go_wp2_with fail
                go_region_held3 (SH w3 w2.heap.size b2 o2 q) (first | exact SH.start hC | exact SH.alloc (by with_reducible assumption) (by omega) | exact SH.grown hg7 (by with_reducible assumption) (by omega) hlt2 HO.out | assumption) (first | (refine step_append_new rfl _ _ 26 rfl w2.heap.size 57 Tryz.underlying26 sbj_info rfl (by decide) rfl (ownsRow_ext (ownsRow_ext hown4 (Below.refl _ _).drew) (ext_alloc _ _)) rfl (Sl.new _ (sbC q) _ 1 1 (by omega) (by decide)) rfl (sbL_one q) (by unfold maxLen; omega) (by omega) (by simp; omega) ?_; intro v7 w7 hown7 hg7))
                all_goals
                  have hown8 : w7.ownsRow w2.heap.size 57 8 v7 (O ++ [q]).length ((O ++ [q]).flatMap sbL) := by rw [E1.out, List.length_append]; exact hown7
                  have hS : SH w3 w2.heap.size b2 o2 q w7 := by assumption
                  have hb8 := hb4.trans hS.1
                  clear hown7 hg7 hS hone hC hown4
                  go_wp2
                  go_roundg (ya.length + 1 + (yb.length + 1))
                  case measure => omega
                  case rel => exact ⟨p :: ya, yb, O ++ [q], _, _, _, _, rfl, rfl, by simp only [List.length_cons]; omega, by simp only [List.length_cons, List.length_append, List.length_nil]; omega, sa, hT, hown8, HM2, hb8⟩
            · have HD := Lib.hid (decide_eq_false ho)
              have HM2 := Lib.hid (HM.out.left (by rw [cmpT_anti q p]; omega))
              clear ho hD
              go_wp2_with fail
              go_region_held3 (S88 wr b2 o2 q b1 o1 p) (first | exact S88.start ⟨f0, f1, f2, f3, f4, f5, f6, f7⟩ ⟨e0, e1, e2, e3, e4, e5, e6, e7⟩ | exact S88.ext (by with_reducible assumption) (by with_reducible assumption) | assumption) (first | (go_at_call 65; refine (sooner_at q p _).mono ?_; rw [HD.out]; rintro e w3 ⟨rfl, hb3⟩))
              have hb4 := ext_trans hb.drew hb3
              have hown4 := ownsRow_ext hown (ext_trans (Below.refl wr.heap.size wr).drew hb3)
              have HO := Lib.hid (fun k hk => (hown4.lt k hk).1)
              have hC : C8 w3 b1 o1 p := C8.ext (ext_trans (Below.refl wr.heap.size wr).drew hb3) ⟨e0, e1, e2, e3, e4, e5, e6, e7⟩
              have hsz4 := hb4.size
              have E1 : Hid ((O ++ [p]).flatMap sbL = O.flatMap sbL ++ (sbC p).toList) := by
                have : (O ++ [p]).flatMap sbL = O.flatMap sbL ++ (sbC p).toList := by rw [List.flatMap_append]; simp [sbL]
                exact this
              have hone : (1 : Int) ≤ (ya.length : Int) + 1 := by omega
              clear e0 e1 e2 e3 e4 e5 e6 e7 f0 f1 f2 f3 f4 f5 f6 f7 hb3 hown
              by_cases hc1 : ca = 1
              · have hT : Sl w2 (.slice (some ⟨b1, o1, none⟩) ya.length 0) ya.length (ya.flatMap sbL) := by
                  have := sl_tail sa
                  unfold tl1 at this
                  rw [if_pos hc1, hc1] at this
                  exact this
                go_wp2_with fail
                go_region_held3 (SH w3 w2.heap.size b1 o1 p) (first | exact SH.start hC | exact SH.alloc (by with_reducible assumption) (by omega) | exact SH.grown hg7 (by with_reducible assumption) (by omega) hlt1 HO.out | assumption) (first | (refine step_append_new rfl _ _ 26 rfl w2.heap.size 57 Tryz.underlying26 sbj_info rfl (by decide) rfl (ownsRow_ext (ownsRow_ext hown4 (Below.refl _ _).drew) (ext_alloc _ _)) rfl (Sl.new _ (sbC p) _ 1 1 (by omega) (by decide)) rfl (sbL_one p) (by unfold maxLen; omega) (by omega) (by simp; omega) ?_; intro v7 w7 hown7 hg7))
                all_goals
                  have hown8 : w7.ownsRow w2.heap.size 57 8 v7 (O ++ [p]).length ((O ++ [p]).flatMap sbL) := by rw [E1.out, List.length_append]; exact hown7
                  have hS : SH w3 w2.heap.size b1 o1 p w7 := by assumption
                  have hb8 := hb4.trans hS.1
                  clear hown7 hg7 hS hone hC hown4
                  go_wp2
                  go_roundg (ya.length + 1 + (yb.length + 1))
                  case measure => omega
                  case rel => exact ⟨ya, q :: yb, O ++ [p], _, _, _, _, rfl, rfl, by simp only [List.length_cons]; omega, by simp only [List.length_cons, List.length_append, List.length_nil]; omega, hT, sb, hown8, HM2, hb8⟩
              · have hT : Sl w2 (.slice (some ⟨b1, o1 + 8, none⟩) ya.length (ca - 1)) ya.length (ya.flatMap sbL) := by
                  have := sl_tail sa
                  unfold tl1 at this
                  rw [if_neg hc1] at this
                  simp only [Option.map_some, add_spot] at this
                  exact this
                go_wp2_with fail
                go_region_held3 (SH w3 w2.heap.size b1 o1 p) (first | exact SH.start hC | exact SH.alloc (by with_reducible assumption) (by omega) | exact SH.grown hg7 (by with_reducible assumption) (by omega) hlt1 HO.out | assumption) (first | (refine step_append_new rfl _ _ 26 rfl w2.heap.size 57 Tryz.underlying26 sbj_info rfl (by decide) rfl (ownsRow_ext (ownsRow_ext hown4 (Below.refl _ _).drew) (ext_alloc _ _)) rfl (Sl.new _ (sbC p) _ 1 1 (by omega) (by decide)) rfl (sbL_one p) (by unfold maxLen; omega) (by omega) (by simp; omega) ?_; intro v7 w7 hown7 hg7))
                all_goals
                  have hown8 : w7.ownsRow w2.heap.size 57 8 v7 (O ++ [p]).length ((O ++ [p]).flatMap sbL) := by rw [E1.out, List.length_append]; exact hown7
                  have hS : SH w3 w2.heap.size b1 o1 p w7 := by assumption
                  have hb8 := hb4.trans hS.1
                  clear hown7 hg7 hS hone hC hown4
                  go_wp2
                  go_roundg (ya.length + 1 + (yb.length + 1))
                  case measure => omega
                  case rel => exact ⟨ya, q :: yb, O ++ [p], _, _, _, _, rfl, rfl, by simp only [List.length_cons]; omega, by simp only [List.length_cons, List.length_append, List.length_nil]; omega, hT, sb, hown8, HM2, hb8⟩
end Tr
end Go.Proofs.YtemenlcigengeaaGreatDoor
