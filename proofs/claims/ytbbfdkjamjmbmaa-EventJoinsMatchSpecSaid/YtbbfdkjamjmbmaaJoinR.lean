/- The reference's Join. -/
import Derived.Test.YtbbfdkjamjmbmaaMerged
import Derived.Test.YtbbfdkjamjmbmaaJoin
namespace Go.Proofs.Ytbbfdkjamjmbmaa
open Go.RowKit
theorem ite_eight (b : Bool) (x : Int) (h : (if b = true then (8 : Int) else x) = 0) : x = 0 := by cases b <;> simp_all
theorem scan_zero : ∀ (p : Option Ev) (l : List Ev), scanFrom p l = 0 → ∀ e ∈ l, checkE e = 0
  | _, [], _, e, he => by cases he
  | p, x :: l, h, e, he => by
    simp only [scanFrom] at h
    by_cases hx : checkE x = 0
    · rw [if_neg (by simp [hx])] at h
      have h' := ite_eight _ _ h
      rcases List.mem_cons.1 he with rfl | he
      · exact hx
      · exact scan_zero _ l h' e he
    · rw [if_pos hx] at h; omega
theorem checkL_all {l : List Ev} (h : checkL l = 0) : ∀ x ∈ l, checkE x = 0 := by
  unfold checkL at h
  by_cases h1 : 20000 < l.length
  · rw [if_pos h1] at h; cases h
  · rw [if_neg h1] at h
    by_cases h2 : scanFrom none l = 0
    · exact scan_zero none l h2
    · rw [if_pos h2] at h; exact absurd h h2
theorem scan_asc : ∀ (p : Option Ev) (l : List Ev), (∀ x ∈ l, checkE x = 0) → Asc l → (∀ q, p = some q → ∀ x ∈ l, ordE q x < 0) → scanFrom p l = 0
  | _, [], _, _, _ => rfl
  | p, e :: r, hc, ha, hp => by
    obtain ⟨a1, a2⟩ := List.pairwise_cons.1 ha
    unfold scanFrom
    rw [if_neg (by simp [hc e (by simp)]), if_neg]
    · exact scan_asc (some e) r (fun x hx => hc x (by simp [hx])) a2 (fun q hq x hx => by cases hq; exact a1 x hx)
    · cases p with
      | none => simp
      | some q => have := hp q rfl e (by simp); simp; omega
theorem checkL_asc {M : List Ev} (ha : Asc M) (hc : ∀ x ∈ M, checkE x = 0) : checkL M = if 20000 < M.length ∨ 50 < (shardsOf M).length then 2 else 0 := by
  unfold checkL
  have h0 := scan_asc none M hc ha (fun q hq => by cases hq)
  by_cases h1 : 20000 < M.length
  · rw [if_pos h1, if_pos (.inl h1)]
  · rw [if_neg h1, if_neg (by simp [h0])]
    by_cases h2 : 50 < (shardsOf M).length
    · rw [if_pos h2, if_pos (.inr h2)]
    · rw [if_neg h2, if_neg (by omega)]
set_option maxHeartbeats 4000000 in
theorem ref7_Join (la lb : List Ev) (hoka : ∀ e ∈ la, e.ok) (hokb : ∀ e ∈ lb, e.ok) (a b : Option Addr) (ca cb : Nat) (w : World)
    (sa : Sl w (.slice a la.length ca) la.length (la.flatMap evL)) (sb : Sl w (.slice b lb.length cb) lb.length (lb.flatMap evL)) :
    Calls Try.prog 21 #[.slice a la.length ca, .slice b lb.length cb] w (JoinPost la lb w) := by
  have HA := Lib.hid hoka
  have HB := Lib.hid hokb
  clear hoka hokb
  go_enter Try.func21, Try.ntmps21
  go_wp2_with fail
  refine (ref7_CheckLog la HA.out a ca _ sa).mono ?_
  rintro e w1 ⟨rfl, hb1⟩
  by_cases h1 : checkL la = 0
  · have hne : (checkL la != 0) = false := by simp [h1]
    have H1 := Lib.hid h1
    clear h1
    go_wp2_with fail
    refine (ref7_CheckLog lb HB.out b cb _ (sb.ext hb1)).mono ?_
    rintro e w2 ⟨rfl, hb2⟩
    have hbw2 := ext_trans hb1 hb2
    clear hb1 hb2 hne
    by_cases h2 : checkL lb = 0
    · have hne : (checkL lb != 0) = false := by simp [h2]
      have H2 := Lib.hid h2
      clear h2
      go_wp2_with fail
      refine (ref7_merged la lb (checkL_le H1.out) (checkL_le H2.out) a b ca cb _ (sa.ext hbw2) (sb.ext hbw2)).mono ?_
      rintro e w3 (⟨C, a3, cap3, rfl, s3, hasc, hmem, hb3⟩ | ⟨rfl, hn, hb3⟩)
      · have hbw3 := ext_trans hbw2 hb3
        have hok : ∀ e ∈ C, e.ok := fun x hx => (List.mem_append.1 ((hmem x).1 hx)).elim (HA.out x) (HB.out x)
        have hck : ∀ e ∈ C, checkE e = 0 := fun x hx => (List.mem_append.1 ((hmem x).1 hx)).elim (checkL_all H1.out x) (checkL_all H2.out x)
        have hcl := checkL_asc hasc hck
        have HAS := Lib.hid hasc
        have HM := Lib.hid hmem
        have hcc := ref7_CheckLog C hok a3 cap3 w3 s3
        clear hok hck hmem hasc hb3 hbw2 hne
        by_cases hbig : 20000 < C.length ∨ 50 < (shardsOf C).length
        · rw [if_pos hbig] at hcl
          rw [hcl] at hcc
          clear hcl
          go_wp2_with fail
          refine hcc.mono ?_
          rintro e w4 ⟨rfl, hb4⟩
          have HP : Hid (JoinPost la lb w (.returned (.tuple #[.slice none 0 0, .int .i64 2])) w4) := join_none (.inr (.inr (.inr ⟨H1.out, H2.out, C, HAS.out, HM.out, .inl ⟨hbig, rfl, rfl⟩⟩))) (ext_trans hbw3 hb4)
          clear hbig hcc
          go_wp2
          go_ret2
          exact HP.out
        · rw [if_neg hbig] at hcl
          rw [hcl] at hcc
          clear hcl
          go_wp2_with fail
          refine hcc.mono ?_
          rintro e w4 ⟨rfl, hb4⟩
          have HP : Hid (JoinPost la lb w (.returned (.tuple #[.slice a3 C.length cap3, .int .i64 0])) w4) := ⟨C, 0, a3, cap3, rfl, s3.ext hb4, .inr (.inr (.inr ⟨H1.out, H2.out, C, HAS.out, HM.out, .inr ⟨hbig, rfl, rfl⟩⟩)), ext_trans hbw3 hb4⟩
          clear hbig hcc
          go_wp2
          go_ret2
          exact HP.out
      · have HP : Hid (JoinPost la lb w (.returned (.tuple #[.slice none 0 0, .int .i64 13])) w3) := join_none (.inr (.inr (.inl ⟨H1.out, H2.out, hn, rfl, rfl⟩))) (ext_trans hbw2 hb3)
        clear hn
        go_wp2
        go_ret2
        exact HP.out
    · have hne : (checkL lb != 0) = true := by simp [h2]
      have HP : Hid (JoinPost la lb w (.returned (.tuple #[.slice none 0 0, .int .i64 (checkL lb)])) w2) := join_none (.inr (.inl ⟨H1.out, h2, rfl, rfl⟩)) hbw2
      clear h2
      go_wp2
      go_ret2
      exact HP.out
  · have hne : (checkL la != 0) = true := by simp [h1]
    have HP : Hid (JoinPost la lb w (.returned (.tuple #[.slice none 0 0, .int .i64 (checkL la)])) w1) := join_none (.inl ⟨h1, rfl, rfl⟩) hb1
    clear h1
    go_wp2
    go_ret2
    exact HP.out
end Go.Proofs.Ytbbfdkjamjmbmaa
