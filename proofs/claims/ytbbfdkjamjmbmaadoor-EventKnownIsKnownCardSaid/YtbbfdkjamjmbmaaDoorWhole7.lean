/- whole of the laws about events: what came joined with more, if nothing is broken then. -/
import Derived.Test.YtbbfdkjamjmbmaaDoorHas
import Derived.Test.YtbbfdkjamjmbmaaDoorJoinQ
import Derived.Test.YtbbfdkjamjmbmaaDoorBroken
namespace Go.Proofs.YtbbfdkjamjmbmaaDoor
open Go.RowKit
theorem JoinSpec.okE {a b R : List Ev} {F : Int} (h : JoinSpec a b R F) (ha : ∀ e ∈ a, e.ok) (hb : ∀ e ∈ b, e.ok) : ∀ e ∈ R, e.ok := by
  by_cases hF : F = 0
  · subst hF
    obtain ⟨_, _, _, h4, _⟩ := h.ok
    exact fun e he => (List.mem_append.1 ((h4 e).1 he)).elim (ha e) (hb e)
  · rw [h.bad hF]; exact fun e he => by cases he
/-- What whole leaves: all of both, unbroken, of these shards; or nothing. -/
def WholePost (l more : List Ev) (L : List ByteArray) (w : World) (e : Ending) (w' : World) : Prop :=
  (∃ (M : List Ev) (a : Option Addr) (cap : Nat), e = .returned (.tuple #[.slice a M.length cap, .bool true]) ∧ Sl w' (.slice a M.length cap) M.length (M.flatMap evL) ∧ JoinSpec l more M 0 ∧ brokL M = [] ∧ (∀ x ∈ M, x.shard ∈ L) ∧ Below w.heap.size w w') ∨
  (e = .returned (.tuple #[.slice none 0 0, .bool false]) ∧ Below w.heap.size w w')
set_option maxRecDepth 100000 in
set_option maxHeartbeats 8000000 in
theorem whole_law (la lb : List Ev) (L : List ByteArray) (hoka : ∀ e ∈ la, e.ok) (hokb : ∀ e ∈ lb, e.ok) (a b c : Option Addr) (ca cb cc : Nat) (w : World)
    (sa : Sl w (.slice a la.length ca) la.length (la.flatMap evL)) (sb : Sl w (.slice b lb.length cb) lb.length (lb.flatMap evL)) (sc : Sl w (.slice c L.length cc) L.length (L.map Value.string)) :
    Calls Tryd.prog 9 #[.slice a la.length ca, .slice b lb.length cb, .slice c L.length cc] w (WholePost la lb L w) := by
  have c1 := event_Join la lb hoka hokb a b ca cb w sa sb
  have HA := Lib.hid hoka
  have HB := Lib.hid hokb
  clear hoka hokb sa sb
  go_enter Tryd.func9, Tryd.ntmps9
  go_wp2_with fail
  refine c1.mono ?_
  rintro e w1 ⟨M, F, a1, d1, rfl, s1, j1, hb1⟩
  clear c1
  by_cases hF : F = 0
  · subst hF
    have J := Lib.hid j1
    have c2 := event_Broken M (j1.okE HA.out HB.out) a1 d1 w1 s1
    have hcl := checkL_of j1
    clear j1
    go_wp2_with fail
    refine c2.mono ?_
    rintro e w2 ⟨a2, d2, rfl, s2, hb2⟩
    have hbw2 := ext_trans hb1 hb2
    have s3 := s1.ext hb2
    rw [hcl]
    clear c2 s1 hb1 hb2 hcl
    cases hbr : brokL M with
    | cons y r =>
      have HP : Hid (WholePost la lb L w (.returned (.tuple #[.slice none 0 0, .bool false])) w2) := .inr ⟨rfl, hbw2⟩
      rw [hbr] at s2
      simp only [List.length_cons] at s2 ⊢
      clear hbr
      go_wp2
      go_ret2
      exact HP.out
    | nil =>
      have HBR := Lib.hid hbr
      rw [hbr] at s2
      simp only [List.length_nil] at s2 ⊢
      clear hbr s2
      have hlm := s3.len_le
      go_wp2
      go_loopw [35] (fun i wr => ∃ k : Nat, k ≤ M.length ∧ i = .int .i64 k ∧ Hid (∀ j x, j < k → M[j]? = some x → x.shard ∈ L) ∧ Below w2.heap.size w2 wr) (fun i _ => M.length - (intOf i).toNat)
      case atStart => exact ⟨0, by omega, rfl, (fun j x hj => by omega), Below.refl _ _⟩
      case round =>
        obtain ⟨k, hk, rfl, HK, hb⟩ := hrel
        by_cases hlt : k < M.length
        · have hgk := List.getElem?_eq_getElem hlt
          generalize M[k] = x at hgk
          obtain ⟨b', o', rfl, e0, e1, e2, e3, e4, e5, e6, e7⟩ := ev_cells (s3.ext hb) hgk
          have HG := Lib.hid hgk
          clear hgk
          go_upto_region 10 with (fail)
          clear e0 e1 e2 e3 e4 e5 e6 e7
          refine wp_box1 fun X hszX hbX hX => ?_
          have g0 := hX.2 0
          have hbx := ext_trans hb hbX
          clear hszX hX hbX
          go_wp2_with fail
          refine (contains_str L x.shard c cc _ (sc.ext (ext_trans hbw2 hbx))).mono ?_
          rintro e w4 ⟨z, rfl, hz, hb4⟩
          have hb5 := ext_trans hbx hb4
          clear g0
          cases z with
          | true =>
            have HK2 : Hid (∀ j y, j < k + 1 → M[j]? = some y → y.shard ∈ L) := by
              intro j y hj hy
              by_cases e : j = k
              · subst e; rw [HG.out] at hy; cases hy; exact hz.1 rfl
              · exact HK.out j y (by omega) hy
            clear hz
            go_wp2
            go_roundw
            case rel => exact ⟨k + 1, by omega, by go_num, HK2, hb5⟩
            case measure => simp [intOf]; omega
          | false =>
            have HP : Hid (WholePost la lb L w (.returned (.tuple #[.slice none 0 0, .bool false])) w4) := .inr ⟨rfl, ext_trans hbw2 hb5⟩
            clear hz
            go_wp2
            go_ret2
            exact HP.out
        · have HP : Hid (WholePost la lb L w (.returned (.tuple #[.slice a1 M.length d1, .bool true])) wr) := by
            refine .inl ⟨M, a1, d1, rfl, s3.ext hb, J.out, HBR.out, fun x hx => ?_, ext_trans hbw2 hb⟩
            obtain ⟨j, hj, rfl⟩ := List.getElem_of_mem hx
            exact HK.out j _ (by omega) (List.getElem?_eq_getElem hj)
          go_wp2
          go_ret2
          exact HP.out
  · have hne : (F != 0) = true := by simp [hF]
    have HP : Hid (WholePost la lb L w (.returned (.tuple #[.slice none 0 0, .bool false])) w1) := .inr ⟨rfl, hb1⟩
    clear hF j1
    go_wp2
    go_ret2
    exact HP.out
end Go.Proofs.YtbbfdkjamjmbmaaDoor
