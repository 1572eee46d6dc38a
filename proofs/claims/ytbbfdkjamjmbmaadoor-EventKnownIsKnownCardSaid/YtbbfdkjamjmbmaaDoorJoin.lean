/- event.Join. -/
import Derived.Test.YtbbfdkjamjmbmaaDoorUnite
namespace Go.Proofs.YtbbfdkjamjmbmaaDoor
open Go.RowKit Go.Sort Go.Lib
def JoinSpec (a b R : List Ev) (F : Int) : Prop :=
  (checkL a ≠ 0 ∧ R = [] ∧ F = checkL a) ∨ (checkL a = 0 ∧ checkL b ≠ 0 ∧ R = [] ∧ F = checkL b) ∨ (checkL a = 0 ∧ checkL b = 0 ∧ ¬ NoClash (a ++ b) ∧ R = [] ∧ F = 13) ∨
  (checkL a = 0 ∧ checkL b = 0 ∧ ∃ M, Asc M ∧ (∀ x, x ∈ M ↔ x ∈ a ++ b) ∧ ((20000 < M.length ∨ 50 < (shardsOf M).length) ∧ R = [] ∧ F = 2 ∨ ¬ (20000 < M.length ∨ 50 < (shardsOf M).length) ∧ R = M ∧ F = 0))
theorem noClash_mem {U M : List Ev} (h : ∀ x, x ∈ M ↔ x ∈ U) (hn : NoClash M) : NoClash U := fun x hx y hy h0 => hn x ((h x).2 hx) y ((h y).2 hy) h0
theorem JoinSpec.unique {a b R R' : List Ev} {F F' : Int} (h : JoinSpec a b R F) (k : JoinSpec a b R' F') : R = R' ∧ F = F' := by
  rcases h with ⟨h1, rfl, rfl⟩ | ⟨h1, h2, rfl, rfl⟩ | ⟨h1, h2, h3, rfl, rfl⟩ | ⟨h1, h2, M, h3, h4, h5⟩ <;>
  rcases k with ⟨k1, rfl, rfl⟩ | ⟨k1, k2, rfl, rfl⟩ | ⟨k1, k2, k3, rfl, rfl⟩ | ⟨k1, k2, M', k3, k4, k5⟩ <;>
  first
  | exact ⟨rfl, rfl⟩
  | (exfalso; omega)
  | (exfalso; exact h3 (noClash_mem k4 (asc_noClash k3)))
  | (exfalso; exact k3 (noClash_mem h4 (asc_noClash h3)))
  | (obtain rfl := asc_unique h3 k3 (fun x => (h4 x).trans (k4 x).symm)
     rcases h5 with ⟨h5, rfl, rfl⟩ | ⟨h5, rfl, rfl⟩ <;> rcases k5 with ⟨k5, rfl, rfl⟩ | ⟨k5, rfl, rfl⟩ <;> first | exact ⟨rfl, rfl⟩ | exact absurd h5 k5 | exact absurd k5 h5)
theorem checkL_le {l : List Ev} (h : checkL l = 0) : l.length ≤ 20000 := by
  unfold checkL at h
  by_cases h1 : 20000 < l.length
  · rw [if_pos h1] at h; omega
  · omega
def JoinPost (a b : List Ev) (w : World) (e : Ending) (w' : World) : Prop :=
  ∃ (R : List Ev) (F : Int) (ad : Option Addr) (cap : Nat), e = .returned (.tuple #[.slice ad R.length cap, .int .i64 F]) ∧ Sl w' (.slice ad R.length cap) R.length (R.flatMap evL) ∧ JoinSpec a b R F ∧ Below w.heap.size w w'
theorem join_none {a b : List Ev} {w w' : World} {F : Int} (h : JoinSpec a b [] F) (hb : Below w.heap.size w w') : JoinPost a b w (.returned (.tuple #[.slice none 0 0, .int .i64 F])) w' :=
  ⟨[], F, none, 0, rfl, Sl.nil _, h, hb⟩
set_option maxHeartbeats 4000000 in
theorem event_Join (la lb : List Ev) (hoka : ∀ e ∈ la, e.ok) (hokb : ∀ e ∈ lb, e.ok) (a b : Option Addr) (ca cb : Nat) (w : World)
    (sa : Sl w (.slice a la.length ca) la.length (la.flatMap evL)) (sb : Sl w (.slice b lb.length cb) lb.length (lb.flatMap evL)) :
    Calls Tryd.prog 6 #[.slice a la.length ca, .slice b lb.length cb] w (JoinPost la lb w) := by
  have HA := Lib.hid hoka
  have HB := Lib.hid hokb
  clear hoka hokb
  go_enter Tryd.func6, Tryd.ntmps6
  go_wp2
  refine wp_box1 fun W hsz hbW hX => ?_
  clear hsz
  have c0 := hX.2 0
  have c1 := hX.2 1
  have hXs := hX.1
  clear hX
  simp only [List.getElem?_toArray, List.getElem?_cons_zero, List.getElem?_cons_succ] at c0 c1
  go_loopw [15] (fun i wr => ∃ k : Nat, k ≤ 2 ∧ i = .int .i64 k ∧ Hid (0 < k → checkL la = 0) ∧ Hid (1 < k → checkL lb = 0) ∧ Below W.heap.size W wr) (fun i _ => 2 - (intOf i).toNat)
  case atStart => exact ⟨0, by omega, rfl, fun h => by omega, fun h => by omega, Below.refl _ _⟩
  case round =>
    obtain ⟨k, hk, rfl, H0, H1, hb⟩ := hrel
    have hbw := ext_trans hbW hb
    by_cases hk0 : k = 0
    · subst hk0
      have e0 := (hb.cell (p := ⟨w.heap.size, 0, none⟩) hXs).trans c0
      clear c0 c1
      go_wp2_with fail
      refine (event_CheckLog la HA.out a ca _ (sa.ext hbw)).mono ?_
      rintro e w2 ⟨rfl, hb2⟩
      clear e0
      by_cases hc : checkL la = 0
      · have hne : (checkL la != 0) = false := by simp [hc]
        have HC := Lib.hid hc
        clear hc
        go_wp2
        go_roundw
        case rel => exact ⟨1, by omega, rfl, fun _ => HC.out, fun h => by omega, ext_trans hb hb2⟩
        case measure => simp [intOf]
      · have hne : (checkL la != 0) = true := by simp [hc]
        have HP : Hid (JoinPost la lb w (.returned (.tuple #[.slice none 0 0, .int .i64 (checkL la)])) w2) := join_none (.inl ⟨hc, rfl, rfl⟩) (ext_trans hbw hb2)
        clear hc
        go_wp2
        go_ret2
        exact HP.out
    · by_cases hk1 : k = 1
      · subst hk1
        have e1 := (hb.cell (p := ⟨w.heap.size, 1, none⟩) hXs).trans c1
        clear c0 c1
        go_wp2_with fail
        refine (event_CheckLog lb HB.out b cb _ (sb.ext hbw)).mono ?_
        rintro e w2 ⟨rfl, hb2⟩
        clear e1
        by_cases hc : checkL lb = 0
        · have hne : (checkL lb != 0) = false := by simp [hc]
          have HC := Lib.hid hc
          clear hc
          go_wp2
          go_roundw
          case rel => exact ⟨2, by omega, rfl, fun _ => H0.out (by omega), fun _ => HC.out, ext_trans hb hb2⟩
          case measure => simp [intOf]
        · have hne : (checkL lb != 0) = true := by simp [hc]
          have HP : Hid (JoinPost la lb w (.returned (.tuple #[.slice none 0 0, .int .i64 (checkL lb)])) w2) := join_none (.inr (.inl ⟨H0.out (by omega), hc, rfl, rfl⟩)) (ext_trans hbw hb2)
          clear hc
          go_wp2
          go_ret2
          exact HP.out
      · obtain rfl : k = 2 := by omega
        have HA0 := Lib.hid (H0.out (by omega))
        have HB0 := Lib.hid (H1.out (by omega))
        clear H0 H1 hk0 hk1 c0 c1
        have hla := checkL_le HA0.out
        have hlb := checkL_le HB0.out
        go_wp2_with fail
        refine (CCCatE.cat_new' wr a b ca cb la lb (sa.ext hbw) (sb.ext hbw) (by omega)).mono ?_
        rintro e w2 ⟨a2, cap2, rfl, s2, hown, hb2⟩
        have hu := unite_at wr.heap.size (la ++ lb) _ w2 hb2.size hown (by rw [List.length_append]; omega)
        rw [List.length_append] at hu
        clear s2 hown
        go_wp2_with fail
        refine hu.mono ?_
        rintro e w3 (⟨C, a3, cap3, rfl, s3, hasc, hmem, hb3⟩ | ⟨rfl, hn, hb3⟩)
        · have hb4 := ext_trans hbw (hb2.trans hb3)
          have HAS := Lib.hid hasc
          have HM := Lib.hid hmem
          clear hasc hmem hu hb2 hb3
          have hlen := s3.len_le
          by_cases hbig : 20000 < C.length
          · have HP : Hid (JoinPost la lb w (.returned (.tuple #[.slice none 0 0, .int .i64 2])) w3) := join_none (.inr (.inr (.inr ⟨HA0.out, HB0.out, C, HAS.out, HM.out, .inl ⟨.inl hbig, rfl, rfl⟩⟩))) hb4
            have hbz : decide ((20000 : Int) < (C.length : Int)) = true := decide_eq_true (by omega)
            go_wp2
            go_ret2
            exact HP.out
          · have hbz : decide ((20000 : Int) < (C.length : Int)) = false := decide_eq_false (by omega)
            have hsl := shardsTo_le C C.length
            go_wp2_with fail
            refine (event_shards C a3 cap3 _ s3).mono ?_
            rintro e w5 ⟨rfl, hb5⟩
            by_cases hsh : 50 < (shardsOf C).length
            · have HP : Hid (JoinPost la lb w (.returned (.tuple #[.slice none 0 0, .int .i64 2])) w5) := join_none (.inr (.inr (.inr ⟨HA0.out, HB0.out, C, HAS.out, HM.out, .inl ⟨.inr hsh, rfl, rfl⟩⟩))) (ext_trans hb4 hb5)
              go_wp2
              go_ret2
              exact HP.out
            · have HP : Hid (JoinPost la lb w (.returned (.tuple #[.slice a3 C.length cap3, .int .i64 0])) w5) :=
                ⟨C, 0, a3, cap3, rfl, s3.ext hb5, .inr (.inr (.inr ⟨HA0.out, HB0.out, C, HAS.out, HM.out, .inr ⟨fun h => h.elim hbig hsh, rfl, rfl⟩⟩)), ext_trans hb4 hb5⟩
              go_wp2
              go_ret2
              exact HP.out
        · have HP : Hid (JoinPost la lb w (.returned (.tuple #[.slice none 0 0, .int .i64 13])) w3) := join_none (.inr (.inr (.inl ⟨HA0.out, HB0.out, hn, rfl, rfl⟩))) (ext_trans hbw (hb2.trans hb3))
          clear hn
          go_wp2
          go_ret2
          exact HP.out
end Go.Proofs.YtbbfdkjamjmbmaaDoor
