/- whole of the laws about events: what came joined with more, if nothing is broken then. awake of the laws about events. The walk of EventClosedStay. Printed by gen_lawclo.py. How the arguments of a law, read as data, lie in memory: slices of whatever elements, field by field. Events and strings that are read as data. Windows that are read as data. Printed by gen_lawsub.py. -/
import Derived.Test.YtacchooggifnhaaDoorCl04
import Derived.Test.YtacchooggifnhaaDoorCl14
import Derived.Test.YtacchooggifnhaaDoorCl02
import Derived.Test.YtacchooggifnhaaDoorCl00
import Derived.Deep.QuietTactic
import Derived.BigQuiet
import Derived.Test.YtacchooggifnhaaDoorCl09
import Derived.Test.YtacchooggifnhaaDoorCl19
import Derived.ChangeArms
import Derived.DataReads
import Derived.SizedLaws
import Derived.Test.YtacchooggifnhaaDoorProg
namespace Go.Proofs.YtacchooggifnhaaDoor
open Go.RowKit
theorem JoinSpec.okE {a b R : List Ev} {F : Int} (h : JoinSpec a b R F) (ha : ∀ e ∈ a, e.ok) (hb : ∀ e ∈ b, e.ok) : ∀ e ∈ R, e.ok := by
  by_cases hF : F = 0
  · subst hF
    obtain ⟨_, _, _, h4, _⟩ := h.ok
    exact fun e he => (List.mem_append.1 ((h4 e).1 he)).elim (ha e) (hb e)
  · rw [h.bad hF]; exact fun e he => by cases he
/-- What whole leaves: all of both, unbroken, of these shards; or nothing. -/
def WholePost (l more : List Ev) (L : List ByteArray) (w : World) (e : Ending) (w' : World) : Prop :=
  (∃ (M : List Ev) (a : Option Addr) (cap : Nat), e = .returned (.tuple #[.slice a M.length cap, .bool true]) ∧ Sl w' (.slice a M.length cap) M.length (M.flatMap evL) ∧ JoinSpec l more M 0 ∧ brokL M = [] ∧ (∀ x ∈ M, x.shard ∈ L) ∧ Below w.heap.size w w') ∨
  (e = .returned (.tuple #[.slice none 0 0, .bool false]) ∧ Below w.heap.size w w')
set_option maxRecDepth 100000 in
set_option maxHeartbeats 8000000 in
theorem whole_law (la lb : List Ev) (L : List ByteArray) (hoka : ∀ e ∈ la, e.ok) (hokb : ∀ e ∈ lb, e.ok) (a b c : Option Addr) (ca cb cc : Nat) (w : World)
    (sa : Sl w (.slice a la.length ca) la.length (la.flatMap evL)) (sb : Sl w (.slice b lb.length cb) lb.length (lb.flatMap evL)) (sc : Sl w (.slice c L.length cc) L.length (L.map Value.string)) :
    Calls Tryd.prog 6 #[.slice a la.length ca, .slice b lb.length cb, .slice c L.length cc] w (WholePost la lb L w) := by
  have c1 := event_Join la lb hoka hokb a b ca cb w sa sb
  have HA := Lib.hid hoka
  have HB := Lib.hid hokb
  clear hoka hokb sa sb
  go_enter Tryd.func6, Tryd.ntmps6
  go_wp2_with fail
  refine c1.mono ?_
  rintro e w1 ⟨M, F, a1, d1, rfl, s1, j1, hb1⟩
  clear c1
  by_cases hF : F = 0
  · subst hF
    have J := Lib.hid j1
    have c2 := event_Broken M (j1.okE HA.out HB.out) a1 d1 w1 s1
    have hcl := checkL_of j1
    clear j1
    go_wp2_with fail
    refine c2.mono ?_
    rintro e w2 ⟨a2, d2, rfl, s2, hb2⟩
    have hbw2 := ext_trans hb1 hb2
    have s3 := s1.ext hb2
    rw [hcl]
    clear c2 s1 hb1 hb2 hcl
    cases hbr : brokL M with
    | cons y r =>
      have HP : Hid (WholePost la lb L w (.returned (.tuple #[.slice none 0 0, .bool false])) w2) := .inr ⟨rfl, hbw2⟩
      rw [hbr] at s2
      simp only [List.length_cons] at s2 ⊢
      clear hbr
      go_wp2
      go_ret2
      exact HP.out
    | nil =>
      have HBR := Lib.hid hbr
      rw [hbr] at s2
      simp only [List.length_nil] at s2 ⊢
      clear hbr s2
      have hlm := s3.len_le
      go_wp2
      go_loopw [35] (fun i wr => ∃ k : Nat, k ≤ M.length ∧ i = .int .i64 k ∧ Hid (∀ j x, j < k → M[j]? = some x → x.shard ∈ L) ∧ Below w2.heap.size w2 wr) (fun i _ => M.length - (intOf i).toNat)
      case atStart => exact ⟨0, by omega, rfl, (fun j x hj => by omega), Below.refl _ _⟩
      case round =>
        obtain ⟨k, hk, rfl, HK, hb⟩ := hrel
        by_cases hlt : k < M.length
        · have hgk := List.getElem?_eq_getElem hlt
          generalize M[k] = x at hgk
          obtain ⟨b', o', rfl, e0, e1, e2, e3, e4, e5, e6, e7⟩ := ev_cells (s3.ext hb) hgk
          have HG := Lib.hid hgk
          clear hgk
          go_upto_region 10 with (fail)
          clear e0 e1 e2 e3 e4 e5 e6 e7
          refine wp_box1 fun X hszX hbX hX => ?_
          have g0 := hX.2 0
          have hbx := ext_trans hb hbX
          clear hszX hX hbX
          go_wp2_with fail
          refine (contains_str L x.shard c cc _ (sc.ext (ext_trans hbw2 hbx))).mono ?_
          rintro e w4 ⟨z, rfl, hz, hb4⟩
          have hb5 := ext_trans hbx hb4
          clear g0
          cases z with
          | true =>
            have HK2 : Hid (∀ j y, j < k + 1 → M[j]? = some y → y.shard ∈ L) := by
              intro j y hj hy
              by_cases e : j = k
              · subst e; rw [HG.out] at hy; cases hy; exact hz.1 rfl
              · exact HK.out j y (by omega) hy
            clear hz
            go_wp2
            go_roundw
            case rel => exact ⟨k + 1, by omega, by go_num, HK2, hb5⟩
            case measure => simp [intOf]; omega
          | false =>
            have HP : Hid (WholePost la lb L w (.returned (.tuple #[.slice none 0 0, .bool false])) w4) := .inr ⟨rfl, ext_trans hbw2 hb5⟩
            clear hz
            go_wp2
            go_ret2
            exact HP.out
        · have HP : Hid (WholePost la lb L w (.returned (.tuple #[.slice a1 M.length d1, .bool true])) wr) := by
            refine .inl ⟨M, a1, d1, rfl, s3.ext hb, J.out, HBR.out, fun x hx => ?_, ext_trans hbw2 hb⟩
            obtain ⟨j, hj, rfl⟩ := List.getElem_of_mem hx
            exact HK.out j _ (by omega) (List.getElem?_eq_getElem hj)
          go_wp2
          go_ret2
          exact HP.out
  · have hne : (F != 0) = true := by simp [hF]
    have HP : Hid (WholePost la lb L w (.returned (.tuple #[.slice none 0 0, .bool false])) w1) := .inr ⟨rfl, hb1⟩
    clear hF j1
    go_wp2
    go_ret2
    exact HP.out
end Go.Proofs.YtacchooggifnhaaDoor
namespace Go.Proofs.YtacchooggifnhaaDoor
open Go.RowKit
set_option maxHeartbeats 2000000 in
theorem itoa_1 (w : World) : Calls Tryd.prog 36 #[.int .i64 1] w fun e w' => e = .returned (.string ⟨#[49]⟩) ∧ w = w' := by
  go_enter Tryd.func36, Tryd.ntmps36
  go_wp2
  go_ret
  exact ⟨rfl, rfl⟩
set_option maxHeartbeats 2000000 in
theorem itoa_5 (w : World) : Calls Tryd.prog 36 #[.int .i64 5] w fun e w' => e = .returned (.string ⟨#[53]⟩) ∧ w = w' := by
  go_enter Tryd.func36, Tryd.ntmps36
  go_wp2
  go_ret
  exact ⟨rfl, rfl⟩
abbrev ev7 : Ev := ⟨⟨#[115]⟩, 1, 3, 5, ⟨#[]⟩, ⟨#[]⟩, 0, 0⟩
theorem check7 : checkE ev7 = 0 := by simp [checkE, nameB, withinB, letterAt, wordC, wordN, ByteArray.toList_eq]
set_option maxHeartbeats 4000000 in
theorem show7 (w : World) : Calls Tryd.prog 24 #[.agg (evC ev7)] w fun e w' => e = .returned (.string ⟨#[115, 32, 49, 32, 53, 32, 109, 97, 114, 107]⟩) ∧ Below w.heap.size w w' := by
  go_enter Tryd.func24, Tryd.ntmps24
  go_wp2_with fail
  refine wp_box1 fun W hsz hbW hA => ?_
  clear hsz
  go_region_held3 (S2 W w.heap.size (evC ev7) w.heap.size (evC ev7)) (first | exact S2.start hA hA | assumption) (first | (go_at_call 36; with_reducible refine (itoa_1 _).mono ?_; rintro e w1 ⟨rfl, rfl⟩) | (go_at_call 36; with_reducible refine (itoa_5 _).mono ?_; rintro e w2 ⟨rfl, rfl⟩))
  have k2 := hA.2 2
  go_wp2
  go_ret
  exact ⟨rfl, hbW.trans (Below.mono (S2.base (by assumption)) hbW.size)⟩
set_option maxHeartbeats 4000000 in
theorem show_7 (w : World) : Calls Tryd.prog 10 #[.agg (evC ev7)] w fun e w' => e = .returned (.tuple #[.string ⟨#[115, 32, 49, 32, 53, 32, 109, 97, 114, 107]⟩, .int .i64 0]) ∧ Below w.heap.size w w' := by
  have hc := fun W => event_Check ev7 ⟨by decide, by decide, by decide⟩ W
  rw [check7] at hc
  have HC : Aside _ := hc
  clear hc
  go_enter Tryd.func10, Tryd.ntmps10
  go_wp2_with fail
  have hA : Box (w.alloc (.cells (evC ev7) 43)) w.heap.size (evC ev7) := Box.new _ _ _
  refine (HC.out _).mono ?_
  rintro e w1 ⟨rfl, hb1⟩
  have hA1 := hA.ext hb1
  have k0 := hA1.2 0; have k1 := hA1.2 1; have k2 := hA1.2 2; have k3 := hA1.2 3; have k4 := hA1.2 4; have k5 := hA1.2 5; have k6 := hA1.2 6; have k7 := hA1.2 7
  have hbw : Below w.heap.size w w1 := (ext_alloc _ _).trans (hb1.mono (by simp))
  clear hA hb1
  go_wp2_with fail
  refine (show7 _).mono ?_
  rintro e w2 ⟨rfl, hb2⟩
  have hbw2 := ext_trans hbw hb2
  go_wp2
  go_ret2
  exact ⟨rfl, hbw2⟩
set_option maxHeartbeats 4000000 in
theorem awake7 (w : World) : Calls Tryd.prog 4 #[] w fun e w' => e = .returned (.bool true) ∧ Below w.heap.size w w' := by
  go_enter Tryd.func4, Tryd.ntmps4
  go_wp2_with fail
  refine (show_7 _).mono ?_
  rintro e w1 ⟨rfl, hb1⟩
  go_wp2
  go_ret
  exact ⟨rfl, hb1⟩
end Go.Proofs.YtacchooggifnhaaDoor
namespace Go.Proofs.YtacchooggifnhaaDoor
open Go.RowKit
namespace Ex
theorem subF_ok {l : List Ev} {L : List ByteArray} {x name : ByteArray} {len bf : Int} (h : subF l L x name len bf = 0) : checkL l = 0 ∧ checkSh L = 0 ∧ nameB x.data.toList = true ∧ 1 ≤ len ∧ ∀ M, checkL M = 0 → subF M L x name len bf = 0 := by
  unfold subF at h
  by_cases h1 : checkL l = 0
  · rw [if_neg (by simp [h1])] at h
    by_cases h2 : checkSh L = 0
    · rw [if_neg (by simp [h2])] at h
      by_cases h3 : nameB x.data.toList = false ∨ nameB name.data.toList = false
      · rw [if_pos h3] at h; cases h
      · rw [if_neg h3] at h
        by_cases h4 : withinB len 1 100000000 = false ∨ withinB bf 0 100000000 = false
        · rw [if_pos h4] at h; cases h
        · have h5 : nameB x.data.toList = true := by
            cases e : nameB x.data.toList
            · exact absurd (.inl e) h3
            · rfl
          have h6 : withinB len 1 100000000 = true := by
            cases e : withinB len 1 100000000
            · exact absurd (.inl e) h4
            · rfl
          have h7 : 1 ≤ len ∧ len ≤ 100000000 := of_decide_eq_true h6
          refine ⟨h1, h2, h5, h7.1, fun M hM => ?_⟩
          unfold subF
          rw [if_neg (by simp [hM]), if_neg (by simp [h2]), if_neg h3, if_neg h4]
    · rw [if_pos h2] at h; exact absurd h h2
  · rw [if_pos h1] at h; exact absurd h h1
set_option maxRecDepth 100000 in
set_option maxHeartbeats 16000000 in
theorem lawClo_at (l more : List Ev) (hok : ∀ e ∈ l, e.ok) (hokm : ∀ e ∈ more, e.ok) (L : List ByteArray) (hsz : ∀ s ∈ L, s.size ≤ maxLen) (x : ByteArray) (hx : x.size ≤ maxLen) (name : ByteArray) (hn : name.size ≤ maxLen) (len bf : Int) (a am a2 : Option Addr) (c cm c2 : Nat) (w : World) (hs : Sl w (.slice a l.length c) l.length (l.flatMap evL)) (hsm : Sl w (.slice am more.length cm) more.length (more.flatMap evL)) (hs2 : Sl w (.slice a2 L.length c2) L.length (L.map Value.string)) :
    Calls Tryd.prog 3 #[.slice a l.length c, .slice am more.length cm, .slice a2 L.length c2, .string x, .agg #[.string name, .int .i64 len, .int .i64 bf]] w fun e w' => e = .returned (.bool true) ∧ Below w.heap.size w w' := by
  have HOK := Lib.hid hok
  have HOM := Lib.hid hokm
  have HS := Lib.hid hs
  have HSM := Lib.hid hsm
  have HS2 := Lib.hid hs2
  have HSZ := Lib.hid hsz
  have HX := Lib.hid hx
  have HNM := Lib.hid hn
  clear hok hokm hs hsm hs2 hsz hx hn
  go_enter Tryd.func3, Tryd.ntmps3
  go_upto_region 1 with (fail)
  refine wp_box1 fun W0 hsz0 hb0 hA0 => ?_
  clear hsz0
  obtain ⟨wb, hwb⟩ : ∃ z, w.heap.size = z := ⟨_, rfl⟩
  rw [hwb] at hA0 ⊢
  have HWB := Lib.hid hwb
  clear hwb
  go_wp2_with fail
  refine (awake7 W0).mono ?_
  rintro e w1 ⟨rfl, hb1⟩
  have hbw1 := ext_trans hb0 hb1
  have hA1 := hA0.ext hb1
  have ca0 : w1.cell? ⟨wb, 0, none⟩ = some (.string name) := hA1.2 0
  have ca1 : w1.cell? ⟨wb, 1, none⟩ = some (.int .i64 len) := hA1.2 1
  have ca2 : w1.cell? ⟨wb, 2, none⟩ = some (.int .i64 bf) := hA1.2 2
  clear hb0 hb1 hA0
  go_wp2_with fail
  refine (Subjects_at l HOK.out L HSZ.out x HX.out name HNM.out len bf a a2 c c2 w1 (HS.out.ext hbw1) (HS2.out.ext hbw1)).mono ?_
  rintro e w2 ⟨R, aR, cR, rfl, hsR, hR, hb2⟩
  have hbw2 := ext_trans hbw1 hb2
  have hA2 := hA1.ext hb2
  have HR := Lib.hid hR
  have HSR := Lib.hid hsR
  obtain ⟨f, hf⟩ : ∃ z, subF l L x name len bf = z := ⟨_, rfl⟩
  have HF := Lib.hid hf
  rw [hf]
  clear ca0 ca1 ca2 hb2 hbw1 hA1 hR hsR hf
  by_cases h0 : f = 0
  · subst h0
    have HFK := Lib.hid (subF_ok HF.out)
    go_wp2_with fail
    refine (whole_law l more L HOK.out HOM.out a am a2 c cm c2 w2 (HS.out.ext hbw2) (HSM.out.ext hbw2) (HS2.out.ext hbw2)).mono ?_
    rintro e w3 (⟨M, aM, cM, rfl, sM, j2, hbr, hsh, hb3⟩ | ⟨rfl, hb3⟩)
    · have hbw3 := ext_trans hbw2 hb3
      have hA3 := hA2.ext hb3
      have HJ := Lib.hid j2
      have HBR := Lib.hid hbr
      have HSH := Lib.hid hsh
      have HMO := Lib.hid (j2.okE HOK.out HOM.out)
      have HMC := Lib.hid (checkL_of j2)
      have HSM2 := Lib.hid sM
      have HSR3 := Lib.hid (HSR.out.ext hb3)
      have hMl := sM.len_le
      have ca0 : w3.cell? ⟨wb, 0, none⟩ = some (.string name) := hA3.2 0
      have ca1 : w3.cell? ⟨wb, 1, none⟩ = some (.int .i64 len) := hA3.2 1
      have ca2 : w3.cell? ⟨wb, 2, none⟩ = some (.int .i64 bf) := hA3.2 2
      clear j2 hbr hsh hb3 hbw2 hA2 sM
      go_wp2_with fail
      refine (Subjects_at M HMO.out L HSZ.out x HX.out name HNM.out len bf aM a2 cM c2 w3 HSM2.out (HS2.out.ext hbw3)).mono ?_
      rintro e w4 ⟨R2, aR2, cR2, rfl, hsR2, hR2, hb4⟩
      have HSR4 := Lib.hid (HSR3.out.ext hb4)
      have HR2 := Lib.hid hR2
      have HSQ := Lib.hid hsR2
      have hbw4 := ext_trans hbw3 hb4
      have hz2 : subF M L x name len bf = 0 := HFK.out.2.2.2.2 M HMC.out
      rw [hz2]
      clear ca0 ca1 ca2 hbw3 hA3 hR2 hsR2 HSR3
      go_wp2_with fail
      refine (Exposed_at M HMO.out x HX.out aM cM w4 (HSM2.out.ext hb4)).mono ?_
      rintro e w5 ⟨o, ks, p, q, cp, cq, rfl, hs1, hs2, hRx, -, hb5⟩
      have hex : expF M x = 0 := by
        unfold expF
        rw [if_neg (by simp [HMC.out]), if_pos HFK.out.2.2.1]
      rw [if_pos hex] at hRx
      rw [hex]
      have HKS := Lib.hid hs2
      have HSR5 := Lib.hid (HSR4.out.ext hb5)
      have HSQ5 := Lib.hid (HSQ.out.ext hb5)
      have hbw5 := ext_trans hbw4 hb5
      have HSTAY : Hid (∀ s ∈ R, s.closed = true → s.key ∉ ks → s ∈ R2) := Lib.hid (fun s hsm hc hk => by
        have h1 := HR.out
        rw [if_pos HF.out] at h1
        have h2 := HR2.out
        rw [if_pos hz2] at h2
        obtain ⟨oA, kA, a1, rfl⟩ := h1
        obtain ⟨oB, kB, b1, rfl⟩ := h2
        obtain ⟨_, rfl⟩ := b1.unique hRx
        exact closed_stays HJ.out HBR.out HSH.out a1 b1 HFK.out.2.2.2.1 hsm hc hk)
      have hlR := HSR5.out.len_le
      clear hs1 hs2 hRx hb4 hb5 hbw4 hz2 hex HSR4 HSQ
      go_wp2_with fail
      go_loopw [68] (fun i wr => ∃ k : Nat, k ≤ R.length ∧ i = .int .i64 k ∧ Below w5.heap.size w5 wr) (fun i _ => R.length - (intOf i).toNat)
      case atStart => exact ⟨0, by omega, rfl, Below.refl _ _⟩
      case round =>
        obtain ⟨k, hk, rfl, hbr⟩ := hrel
        by_cases hlt : k < R.length
        · have hgk := List.getElem?_eq_getElem hlt
          generalize R[k] = s at hgk
          have HMEM := Lib.hid (List.mem_of_getElem? hgk)
          obtain ⟨b, o', rfl, e0, e1, e2, e3, e4, e5, e6, e7⟩ := sb_cells (HSR5.out.ext hbr) hgk
          have hk0 : (0 : Int) ≤ (k : Int) := Int.natCast_nonneg _
          have hk1 : (k : Int) < (R.length : Int) := by omega
          clear hgk
          go_upto_region 16 with (fail)
          clear e0 e1 e2 e3 e4 e5 e6 e7
          refine wp_box1 fun X hszX hbX hX => ?_
          clear hszX
          obtain ⟨g0, g1, g2, g3, g4, g5, g6, g7⟩ := box_sb hX
          have hbx := ext_trans hbr hbX
          obtain ⟨cl, hcl⟩ : ∃ z, s.closed = z := ⟨_, rfl⟩
          have HCL := Lib.hid hcl
          have hXX : Box X wr.heap.size (sbC s) := hX
          cases cl
          · rw [hcl] at g7
            clear hcl hX hXX hbX hbr
            go_wp2
            go_roundw
            case rel => exact ⟨k + 1, by omega, by go_num, hbx⟩
            case measure => simp [intOf]; omega
          · have hcl1 : s.closed = true := hcl
            clear hcl hX hbX hbr
            go_wp2_with fail
            refine (contains_sb R2 { s with closed := true } aR2 cR2 X (HSQ5.out.ext hbx)).mono ?_
            rintro e w7 ⟨z1, rfl, hz1, hb7⟩
            have hb8 := ext_trans hbx hb7
            have HZ1 : Hid (z1 = true ↔ s ∈ R2) := Lib.hid (by
              have h9 : s = { s with closed := true } := by rw [← hcl1]
              rw [h9]; exact hz1)
            obtain ⟨h0, h1, h2, h3, h4, h5, h6, h7⟩ := box_sb (hXX.ext hb7)
            clear g0 g1 g2 g3 g4 g5 g6 g7 hz1 hXX hcl1
            cases z1
            · go_wp2_with fail
              refine (contains_str ks s.key q cq w7 (HKS.out.ext hb8)).mono ?_
              rintro e w8 ⟨z2, rfl, hz2, hb9⟩
              have hb10 := ext_trans hb8 hb9
              have hz3 : z2 = true := by
                cases z2
                · exfalso
                  have h9 : s.key ∉ ks := fun h => by have := hz2.2 h; cases this
                  have h8 := HSTAY.out s HMEM.out HCL.out h9
                  have := HZ1.out.2 h8
                  cases this
                · rfl
              subst hz3
              clear hz2 h0 h1 h2 h3 h4 h5 h6 h7
              go_wp2
              go_roundw
              case rel => exact ⟨k + 1, by omega, by go_num, hb10⟩
              case measure => simp [intOf]; omega
            · clear h0 h1 h2 h3 h4 h5 h6 h7
              go_wp2
              go_roundw
              case rel => exact ⟨k + 1, by omega, by go_num, hb8⟩
              case measure => simp [intOf]; omega
        · have hbz := ext_trans hbw5 hbr
          go_wp2
          go_ret
          exact ⟨rfl, hbz⟩
    · have hbw3 := ext_trans hbw2 hb3
      clear hb3 hbw2 hA2
      go_wp2
      go_ret
      exact ⟨rfl, hbw3⟩
  · have hne : (f != 0) = true := by simpa using h0
    have hR0 : R = [] := by
      have h1 := HR.out
      rw [if_neg (by rw [HF.out]; exact h0)] at h1
      exact h1
    subst hR0
    clear h0 hA2 HSR
    go_wp2
    go_ret
    exact ⟨rfl, hbw2⟩
end Ex
end Go.Proofs.YtacchooggifnhaaDoor
namespace Go.Proofs.YtacchooggifnhaaDoor
open Go.RowKit

/-- A list of things, each of which lies in some cells, one behind the other. -/
def Reps {α : Type} (R : α → List Value → Prop) : List α → List Value → Prop
  | [], cs => cs = []
  | x :: xs, cs => ∃ c r, cs = c ++ r ∧ R x c ∧ Reps R xs r

theorem Reps.mono {α : Type} {R R' : α → List Value → Prop} (h : ∀ x c, R x c → R' x c) : ∀ {l : List α} {cs : List Value}, Reps R l cs → Reps R' l cs
  | [], _, hr => hr
  | _ :: _, _, ⟨c, r, e, h1, h2⟩ => ⟨c, r, e, h _ _ h1, Reps.mono h h2⟩
theorem Reps.length {α : Type} {R : α → List Value → Prop} {sz : Nat} (hs : ∀ x c, R x c → c.length = sz) : ∀ {l : List α} {cs : List Value}, Reps R l cs → cs.length = l.length * sz
  | [], _, hr => by cases hr; simp
  | _ :: l, _, ⟨c, r, e, h1, h2⟩ => by
    subst e
    rw [List.length_append, hs _ _ h1, Reps.length hs h2, List.length_cons, Nat.add_mul]
    omega
theorem Reps.get {α : Type} {R : α → List Value → Prop} {sz : Nat} (hs : ∀ x c, R x c → c.length = sz) : ∀ {l : List α} {cs : List Value} {i : Nat} {x : α}, Reps R l cs → l[i]? = some x → ∃ c, R x c ∧ ∀ j u, c[j]? = some u → cs[i * sz + j]? = some u
  | [], _, _, _, _, hx => by simp at hx
  | y :: l, cs, 0, x, h, hx => by
    obtain ⟨c, r, rfl, h1, h2⟩ := h
    obtain rfl : y = x := by simpa using hx
    refine ⟨c, h1, fun j u hu => ?_⟩
    rw [Nat.zero_mul, Nat.zero_add, List.getElem?_append_left (List.getElem?_eq_some_iff.1 hu).1]; exact hu
  | y :: l, cs, i + 1, x, h, hx => by
    obtain ⟨c, r, rfl, h1, h2⟩ := h
    obtain ⟨c', h3, h4⟩ := Reps.get hs h2 (by simpa using hx)
    refine ⟨c', h3, fun j u hu => ?_⟩
    have hl := hs _ _ h1
    have e : (i + 1) * sz + j = c.length + (i * sz + j) := by rw [hl, Nat.add_mul]; omega
    rw [e, List.getElem?_append_right (by omega), ← h4 j u hu]
    congr 1; omega

theorem addr_of_cell {w : World} {a : Addr} {v : Value} (h : w.cell? a = some v) : a = ⟨a.block, a.off, none⟩ := by
  cases a with | mk b o s =>
  cases s with
  | none => rfl
  | some k =>
    exfalso
    unfold World.cell? at h
    simp only at h
    split at h <;> simp at h

theorem add_add_none (b o i j : Nat) : ((⟨b, o, none⟩ : Addr).add i).add j = ⟨b, o + (i + j), none⟩ := by
  rw [add_spot, add_spot, Nat.add_assoc]

/-- The elements of a slice that is read, one after the other, out of a reading of each. -/
theorem elems_reps {α : Type} {R : α → List Value → Prop} {sz : Nat} (hs : ∀ x c, R x c → c.length = sz) (f : Nat → List Value) :
    ∀ (n : Nat), (∀ i, i < n → ∃ x, R x (f i)) → ∃ l : List α, l.length = n ∧ Reps R l ((List.range n).flatMap f) ∧ ∀ i, i < n → ∀ j u, (f i)[j]? = some u → ((List.range n).flatMap f)[i * sz + j]? = some u
  | 0, _ => ⟨[], rfl, rfl, fun i h => by omega⟩
  | n + 1, h => by
    obtain ⟨l, hl, hr, hg⟩ := elems_reps hs f n (fun i hi => h i (by omega))
    obtain ⟨x, hx⟩ := h n (by omega)
    have hlen := Reps.length hs hr
    have happ : ∀ {l : List α} {cs : List Value}, Reps R l cs → Reps R (l ++ [x]) (cs ++ f n) := by
      intro l
      induction l with
      | nil => intro cs hc; cases hc; exact ⟨f n, [], by simp, hx, rfl⟩
      | cons y l ih =>
        rintro cs ⟨c, r, rfl, h1, h2⟩
        exact ⟨c, r ++ f n, by simp, h1, ih h2⟩
    have hfm : (List.range (n + 1)).flatMap f = (List.range n).flatMap f ++ f n := by
      rw [List.range_succ, List.flatMap_append]; simp
    refine ⟨l ++ [x], by simp [hl], by rw [hfm]; exact happ hr, fun i hi j u hu => ?_⟩
    rw [hfm]
    by_cases hin : i < n
    · have := hg i hin j u hu
      rw [List.getElem?_append_left (List.getElem?_eq_some_iff.1 this).1]; exact this
    · have : i = n := by omega
      subst this
      rw [hl] at hlen
      rw [List.getElem?_append_right (by omega), ← hu]
      congr 1; omega

/-- A slice that is read as data, out of how its elements are read. -/
theorem read_slice {H : Type} {enc : TypeId × Value → H} {P : Program} {W : World} {spare : Nat → Bool} {held : Bool} {α : Type} {R : α → List Value → Prop} {sz : Nat} (hs : ∀ x c, R x c → c.length = sz)
    {t e : TypeId} {fuel : Nat} {cs : List Value} {x : DataW H × List MemPlace} (ht : P.underlying t = some (.slice e)) (hC : P.cellsOf e = sz) (hsz : 0 < sz)
    (hel : ∀ n cs' y, n < fuel → DataW.trod enc P W 0 spare held n e cs' = some y → ∃ a, R a cs')
    (h : DataW.trod enc P W 0 spare held fuel t cs = some x) : ∃ (a : Option Addr) (l : List α) (cap : Nat) (cells : List Value), cs = [.slice a l.length cap] ∧ Sl W (.slice a l.length cap) l.length cells ∧ Reps R l cells := by
  rcases DataW.trod_slice ht h with ⟨rfl, _⟩ | ⟨a, len, cap, elems, rest, n, hn, rfl, hx, hb, hl, hm, hlen, hel', _⟩
  · exact ⟨none, [], 0, [], rfl, Sl.nil W, rfl⟩
  · rw [hC] at hel'
    have hget : ∀ i, i < len → ∃ c, (∀ j u, c[j]? = some u → W.cell? ((a.add (i * sz)).add j) = some u) ∧ ∃ y, R y c := by
      intro i hi
      have h1 := hel' i hi
      have hi' : i < elems.length := by omega
      rw [List.getElem?_eq_getElem hi'] at h1
      obtain ⟨c, hc, htr⟩ := Option.bind_eq_some_iff.1 h1
      obtain ⟨_, hcl, hat⟩ := World.cells?_some hc
      refine ⟨c, fun j u hu => ?_, hel n c _ (by omega) htr⟩
      rw [hat j (by have := (List.getElem?_eq_some_iff.1 hu).1; omega)]; exact hu
    have hget' : ∀ i, ∃ c, i < len → (∀ j u, c[j]? = some u → W.cell? ((a.add (i * sz)).add j) = some u) ∧ ∃ y, R y c := by
      intro i
      by_cases hi : i < len
      · obtain ⟨c, hc⟩ := hget i hi; exact ⟨c, fun _ => hc⟩
      · exact ⟨[], fun h => (hi h).elim⟩
    obtain ⟨f, hf⟩ := Classical.axiomOfChoice hget'
    obtain ⟨l, hll, hr, hg⟩ := elems_reps hs f len (fun i hi => (hf i hi).2)
    refine ⟨some a, l, cap, _, by rw [hll], ⟨_, _, rfl, by omega, hm, (fun h => by cases h), fun i u hu => ?_⟩, hr⟩
    have hrl := Reps.length hs hr
    have hi : i < len * sz := by have := (List.getElem?_eq_some_iff.1 hu).1; rw [hll] at hrl; omega
    have hid : i / sz < len := Nat.div_lt_of_lt_mul (by rw [Nat.mul_comm]; exact hi)
    obtain ⟨y, hy⟩ := (hf _ hid).2
    have hfl := hs _ _ hy
    have hj : i % sz < (f (i / sz)).length := by rw [hfl]; exact Nat.mod_lt _ hsz
    have h2 := hg _ hid _ _ (List.getElem?_eq_getElem hj)
    rw [Nat.div_add_mod' i sz, hu] at h2
    have hcell := (hf _ hid).1 _ _ (List.getElem?_eq_getElem hj)
    have h0 : 0 < len := Nat.lt_of_le_of_lt (Nat.zero_le _) hid
    obtain ⟨y0, hy0⟩ := (hf 0 h0).2
    have hj0 : 0 < (f 0).length := by rw [hs _ _ hy0]; exact hsz
    have hc0 := (hf 0 h0).1 _ _ (List.getElem?_eq_getElem hj0)
    rw [Nat.zero_mul] at hc0
    have ha : a = ⟨a.block, a.off, none⟩ := by
      have e : (a.add 0).add 0 = a := by simp [Addr.add]
      rw [e] at hc0
      exact addr_of_cell hc0
    refine ⟨a.block, a.off, by rw [← ha], ?_⟩
    rw [ha, add_add_none, Nat.div_add_mod' i sz] at hcell
    rw [hcell, Option.some.inj h2]

/-- A value of more cells than one is an aggregate of them. -/
theorem agg_of_cells {v : Value} (h : v.cells.toList.length ≠ 1) : v = .agg v.cells.toList.toArray := by
  cases v <;> simp_all [Value.cells]
theorem i64ok_of {n : Int} (h : (Lit.int .i64 n).wf = true) : i64ok n := by
  simpa [Lit.wf, IntKind.min, IntKind.max, IntKind.signed, IntKind.bits, i64ok] using h
theorem uncons {l : List Value} {n : Nat} (h : l.length = n + 1) : ∃ c r, l = c :: r ∧ r.length = n := by
  cases l with
  | nil => cases h
  | cons c r => exact ⟨c, r, rfl, by simpa using h⟩
end Go.Proofs.YtacchooggifnhaaDoor
namespace Go.Proofs.YtacchooggifnhaaDoor
open Go.RowKit
theorem read_Event {H : Type} {enc : TypeId × Value → H} {W : World} {spare : Nat → Bool} {held : Bool} (fuel : Nat) (cs : List Value) (x : DataW H × List MemPlace) (h : DataW.trod enc Tryd.prog W 0 spare held fuel 43 cs = some x) :
    ∃ (x0 : ByteArray) (x1 : Int) (x2 : Int) (x3 : Int) (x4 : ByteArray) (x5 : ByteArray) (x6 : Int) (x7 : Int), cs = [.string x0, .int .i64 x1, .int .i64 x2, .int .i64 x3, .string x4, .string x5, .int .i64 x6, .int .i64 x7] ∧ x0.size ≤ maxLen ∧ i64ok x1 ∧ i64ok x2 ∧ i64ok x3 ∧ x4.size ≤ maxLen ∧ x5.size ≤ maxLen ∧ i64ok x6 ∧ i64ok x7 := by
  obtain ⟨xs, n, rfl, _, hlen, hxl, hf⟩ := DataW.trod_struct Tryd.underlying43 h
  rw [show Tryd.prog.cellsOf 43 = 8 by kernel_rfl] at hlen
  obtain ⟨c0, r0, rfl, l0⟩ := uncons hlen
  obtain ⟨c1, r1, rfl, l1⟩ := uncons l0
  obtain ⟨c2, r2, rfl, l2⟩ := uncons l1
  obtain ⟨c3, r3, rfl, l3⟩ := uncons l2
  obtain ⟨c4, r4, rfl, l4⟩ := uncons l3
  obtain ⟨c5, r5, rfl, l5⟩ := uncons l4
  obtain ⟨c6, r6, rfl, l6⟩ := uncons l5
  obtain ⟨c7, r7, rfl, l7⟩ := uncons l6
  obtain rfl := List.length_eq_zero_iff.1 l7
  have hx : ∀ i, i < 8 → ∃ y, xs[i]? = some y := fun i hi => ⟨_, List.getElem?_eq_getElem (by rw [hxl]; exact hi)⟩
  have f0 : DataW.trod enc Tryd.prog W 0 spare held n 9 (List.take (Tryd.prog.cellsOf 9) (List.drop 0 [c0, c1, c2, c3, c4, c5, c6, c7])) = xs[0]? := hf 0 _ rfl
  rw [show Tryd.prog.cellsOf 9 = 1 by kernel_rfl] at f0
  simp only [List.drop, List.take] at f0
  obtain ⟨y0, e0⟩ := hx 0 (by omega)
  rw [e0] at f0
  obtain ⟨x0, h0, _, w0⟩ := DataW.trod_string Tryd.underlying9 f0
  have f1 : DataW.trod enc Tryd.prog W 0 spare held n 3 (List.take (Tryd.prog.cellsOf 3) (List.drop 1 [c0, c1, c2, c3, c4, c5, c6, c7])) = xs[1]? := hf 1 _ rfl
  rw [show Tryd.prog.cellsOf 3 = 1 by kernel_rfl] at f1
  simp only [List.drop, List.take] at f1
  obtain ⟨y1, e1⟩ := hx 1 (by omega)
  rw [e1] at f1
  obtain ⟨x1, h1, _, w1⟩ := DataW.trod_int Tryd.underlying3 f1
  have f2 : DataW.trod enc Tryd.prog W 0 spare held n 3 (List.take (Tryd.prog.cellsOf 3) (List.drop 2 [c0, c1, c2, c3, c4, c5, c6, c7])) = xs[2]? := hf 2 _ rfl
  rw [show Tryd.prog.cellsOf 3 = 1 by kernel_rfl] at f2
  simp only [List.drop, List.take] at f2
  obtain ⟨y2, e2⟩ := hx 2 (by omega)
  rw [e2] at f2
  obtain ⟨x2, h2, _, w2⟩ := DataW.trod_int Tryd.underlying3 f2
  have f3 : DataW.trod enc Tryd.prog W 0 spare held n 3 (List.take (Tryd.prog.cellsOf 3) (List.drop 3 [c0, c1, c2, c3, c4, c5, c6, c7])) = xs[3]? := hf 3 _ rfl
  rw [show Tryd.prog.cellsOf 3 = 1 by kernel_rfl] at f3
  simp only [List.drop, List.take] at f3
  obtain ⟨y3, e3⟩ := hx 3 (by omega)
  rw [e3] at f3
  obtain ⟨x3, h3, _, w3⟩ := DataW.trod_int Tryd.underlying3 f3
  have f4 : DataW.trod enc Tryd.prog W 0 spare held n 9 (List.take (Tryd.prog.cellsOf 9) (List.drop 4 [c0, c1, c2, c3, c4, c5, c6, c7])) = xs[4]? := hf 4 _ rfl
  rw [show Tryd.prog.cellsOf 9 = 1 by kernel_rfl] at f4
  simp only [List.drop, List.take] at f4
  obtain ⟨y4, e4⟩ := hx 4 (by omega)
  rw [e4] at f4
  obtain ⟨x4, h4, _, w4⟩ := DataW.trod_string Tryd.underlying9 f4
  have f5 : DataW.trod enc Tryd.prog W 0 spare held n 9 (List.take (Tryd.prog.cellsOf 9) (List.drop 5 [c0, c1, c2, c3, c4, c5, c6, c7])) = xs[5]? := hf 5 _ rfl
  rw [show Tryd.prog.cellsOf 9 = 1 by kernel_rfl] at f5
  simp only [List.drop, List.take] at f5
  obtain ⟨y5, e5⟩ := hx 5 (by omega)
  rw [e5] at f5
  obtain ⟨x5, h5, _, w5⟩ := DataW.trod_string Tryd.underlying9 f5
  have f6 : DataW.trod enc Tryd.prog W 0 spare held n 3 (List.take (Tryd.prog.cellsOf 3) (List.drop 6 [c0, c1, c2, c3, c4, c5, c6, c7])) = xs[6]? := hf 6 _ rfl
  rw [show Tryd.prog.cellsOf 3 = 1 by kernel_rfl] at f6
  simp only [List.drop, List.take] at f6
  obtain ⟨y6, e6⟩ := hx 6 (by omega)
  rw [e6] at f6
  obtain ⟨x6, h6, _, w6⟩ := DataW.trod_int Tryd.underlying3 f6
  have f7 : DataW.trod enc Tryd.prog W 0 spare held n 3 (List.take (Tryd.prog.cellsOf 3) (List.drop 7 [c0, c1, c2, c3, c4, c5, c6, c7])) = xs[7]? := hf 7 _ rfl
  rw [show Tryd.prog.cellsOf 3 = 1 by kernel_rfl] at f7
  simp only [List.drop, List.take] at f7
  obtain ⟨y7, e7⟩ := hx 7 (by omega)
  rw [e7] at f7
  obtain ⟨x7, h7, _, w7⟩ := DataW.trod_int Tryd.underlying3 f7
  cases h0
  cases h1
  cases h2
  cases h3
  cases h4
  cases h5
  cases h6
  cases h7
  exact ⟨x0, x1, x2, x3, x4, x5, x6, x7, rfl, w0, i64ok_of w1, i64ok_of w2, i64ok_of w3, w4, w5, i64ok_of w6, i64ok_of w7⟩
end Go.Proofs.YtacchooggifnhaaDoor
namespace Go.Proofs.YtacchooggifnhaaDoor
open Go.RowKit
theorem read_Window {H : Type} {enc : TypeId × Value → H} {W : World} {spare : Nat → Bool} {held : Bool} (fuel : Nat) (cs : List Value) (x : DataW H × List MemPlace) (h : DataW.trod enc Tryd.prog W 0 spare held fuel 25 cs = some x) :
    ∃ (x0 : ByteArray) (x1 : Int) (x2 : Int), cs = [.string x0, .int .i64 x1, .int .i64 x2] ∧ x0.size ≤ maxLen ∧ i64ok x1 ∧ i64ok x2 := by
  obtain ⟨xs, n, rfl, _, hlen, hxl, hf⟩ := DataW.trod_struct Tryd.underlying25 h
  rw [show Tryd.prog.cellsOf 25 = 3 by kernel_rfl] at hlen
  obtain ⟨c0, r0, rfl, l0⟩ := uncons hlen
  obtain ⟨c1, r1, rfl, l1⟩ := uncons l0
  obtain ⟨c2, r2, rfl, l2⟩ := uncons l1
  obtain rfl := List.length_eq_zero_iff.1 l2
  have hx : ∀ i, i < 3 → ∃ y, xs[i]? = some y := fun i hi => ⟨_, List.getElem?_eq_getElem (by rw [hxl]; exact hi)⟩
  have f0 : DataW.trod enc Tryd.prog W 0 spare held n 9 (List.take (Tryd.prog.cellsOf 9) (List.drop 0 [c0, c1, c2])) = xs[0]? := hf 0 _ rfl
  rw [show Tryd.prog.cellsOf 9 = 1 by kernel_rfl] at f0
  simp only [List.drop, List.take] at f0
  obtain ⟨y0, e0⟩ := hx 0 (by omega)
  rw [e0] at f0
  obtain ⟨x0, h0, _, w0⟩ := DataW.trod_string Tryd.underlying9 f0
  have f1 : DataW.trod enc Tryd.prog W 0 spare held n 3 (List.take (Tryd.prog.cellsOf 3) (List.drop 1 [c0, c1, c2])) = xs[1]? := hf 1 _ rfl
  rw [show Tryd.prog.cellsOf 3 = 1 by kernel_rfl] at f1
  simp only [List.drop, List.take] at f1
  obtain ⟨y1, e1⟩ := hx 1 (by omega)
  rw [e1] at f1
  obtain ⟨x1, h1, _, w1⟩ := DataW.trod_int Tryd.underlying3 f1
  have f2 : DataW.trod enc Tryd.prog W 0 spare held n 3 (List.take (Tryd.prog.cellsOf 3) (List.drop 2 [c0, c1, c2])) = xs[2]? := hf 2 _ rfl
  rw [show Tryd.prog.cellsOf 3 = 1 by kernel_rfl] at f2
  simp only [List.drop, List.take] at f2
  obtain ⟨y2, e2⟩ := hx 2 (by omega)
  rw [e2] at f2
  obtain ⟨x2, h2, _, w2⟩ := DataW.trod_int Tryd.underlying3 f2
  cases h0
  cases h1
  cases h2
  exact ⟨x0, x1, x2, rfl, w0, i64ok_of w1, i64ok_of w2⟩
end Go.Proofs.YtacchooggifnhaaDoor
