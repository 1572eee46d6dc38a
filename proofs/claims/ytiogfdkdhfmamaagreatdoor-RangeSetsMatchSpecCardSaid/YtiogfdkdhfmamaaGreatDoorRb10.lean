/- covers of the program (slices.ContainsFunc over a closure that captures the cut) and of the reference. Printed by gen_cov.py. Laws for rows of cuts and of stretches of the call's own: a cut, a stretch laid behind; the places of two ranges. -/
import Derived.Test.YtiogfdkdhfmamaaGreatDoorRb09
import Derived.Test.YtiogfdkdhfmamaaGreatDoorShelf
namespace Go.Proofs.YtiogfdkdhfmamaaGreatDoor
open Go.RowKit
namespace Rg
open _root_.Go.Proofs.YtiogfdkdhfmamaaGreatDoor.Nt (RH RH.cell RH.box RH.lt RH.new RH.ext RH.fre RH.set RH.other)
def cvS (s : SA) (x : Ct) : Bool := inS cmpC (toS s.raw) x
theorem cvS_is (s : SA) (x : Ct) : cvS s x = (decide (cmpC s.fr.c x ≤ 0) && (s.en || decide (cmpC x s.to.c < 0))) := by
  unfold cvS inS toS SA.raw
  cases s.en <;> simp
def cvL (l : List SA) (x : Ct) : Bool := l.any (cvS · x)
theorem cvL_is (l : List SA) (x : Ct) : cvL l x = cov cmpC ((l.map SA.raw).map toS) x := by
  unfold cvL cov
  rw [List.any_map, List.any_map]; rfl
/-- the five cells of a cut -/
structure C5 (w : World) (B : Nat) (x : CA) : Prop where
  c : ∀ (j : Nat) (v : Value), (caL x)[j]? = some v → w.cell? ⟨B, 0 + j, none⟩ = some v
theorem C5.ext {w w' : World} {B : Nat} {x : CA} (h : C5 w B x) (hb : Below w.heap.size w w') : C5 w' B x := ⟨fun j v hj => cell_later hb (h.c j v hj)⟩
theorem C5.five {w : World} {B : Nat} {x : CA} (h : C5 w B x) : w.cell? ⟨B, 0, none⟩ = some (.int .i64 x.c.v.ma) ∧ w.cell? ⟨B, 1, none⟩ = some (.int .i64 x.c.v.mi) ∧ w.cell? ⟨B, 2, none⟩ = some (.int .i64 x.c.v.pa) ∧ w.cell? ⟨B, 3, none⟩ = some (.slice x.a x.c.v.pre.length x.n) ∧ w.cell? ⟨B, 4, none⟩ = some (.bool x.c.af) :=
  ⟨h.c 0 _ rfl, h.c 1 _ rfl, h.c 2 _ rfl, h.c 3 _ rfl, h.c 4 _ rfl⟩
theorem C5.new (w : World) (x : CA) (t : TypeId) : C5 (w.alloc (.cells (caL x).toArray t)) w.heap.size x := ⟨fun j v hj => by
  rw [(Nt.RH.new w _ t).cell, List.getElem?_toArray, Nat.zero_add]; exact hj⟩

set_option maxRecDepth 100000 in
set_option maxHeartbeats 8000000 in
theorem covers1_at (s : SA) (x : CA) (B : Nat) (w : World) (hs : s.ok w) (hx : x.ok w) (h5 : C5 w B x) : Calls Tryz.prog 43 #[.agg (saL s).toArray, .pointer (some ⟨B, 0, none⟩)] w fun e w' => e = .returned (.bool (cvS s x.c)) ∧ Below w.heap.size w w' := by
  obtain ⟨c1, hc1⟩ : ∃ z, cmpC s.fr.c x.c = z := ⟨_, rfl⟩
  obtain ⟨c2, hc2⟩ : ∃ z, cmpC x.c s.to.c = z := ⟨_, rfl⟩
  have HV : Hid (cvS s x.c = (decide (c1 ≤ 0) && (s.en || decide (c2 < 0)))) := Lib.hid (by rw [cvS_is, hc1, hc2])
  have H1 : Hid (∀ V, Below w.heap.size w V → Calls Tryz.prog 26 #[.agg (caL s.fr).toArray, .agg (caL x).toArray] V fun e w' => e = .returned (.int .i64 c1) ∧ Below V.heap.size V w') := Lib.hid (fun V hV => by
    subst hc1
    exact (compareCuts_g _ _ V (hs.ext hV).fr (hx.ext hV)).mono (fun e w' he => ⟨he.1, he.2.1⟩))
  have H2 : Hid (∀ V, Below w.heap.size w V → Calls Tryz.prog 26 #[.agg (caL x).toArray, .agg (caL s.to).toArray] V fun e w' => e = .returned (.int .i64 c2) ∧ Below V.heap.size V w') := Lib.hid (fun V hV => by
    subst hc2
    exact (compareCuts_g _ _ V (hx.ext hV) (hs.ext hV).to).mono (fun e w' he => ⟨he.1, he.2.1⟩))
  clear hc1 hc2
  clear hs hx
  go_enter Tryz.func43, Tryz.ntmps43
  go_upto_region 1 with (fail)
  refine Nt.wp_row1 fun V hW hR => ?_
  have hB := h5.ext hW
  clear h5
  generalize hb : w.heap.size = b at hR
  clear hb
  go_wp2_with (first | (refine wpList_load_agg rfl _ _ rfl b 0 (by rfl) (caL s.fr) (rh_fr hR) _ Tryz.underlying31 rfl (ca_info s.fr) ?_) | (refine wpList_load_agg rfl _ _ rfl B 0 (by rfl) (caL x) hB.c _ Tryz.underlying31 rfl (ca_info x) ?_))
  refine (H1.out _ hW).mono ?_
  rintro e w1 ⟨rfl, hb1⟩
  replace hR := hR.ext hb1
  replace hB := hB.ext hb1
  replace hW := ext_trans hW hb1
  clear hb1 H1
  by_cases h1 : c1 ≤ 0
  · have hen := rh_en hR
    by_cases he : s.en = true
    · have HN : Hid (cvS s x.c = true) := Lib.hid (by rw [HV.out, decide_eq_true h1, he]; rfl)
      rw [he] at hen
      clear HV H2 he
      go_wp2
      go_ret
      exact ⟨congrArg (fun b => Ending.returned (.bool b)) (by first | exact HN.out.symm | (rw [HN.out]; exact decide_eq_false (by omega)) | (rw [HN.out]; exact decide_eq_true (by omega))), hW⟩
    · have he' : s.en = false := by simpa using he
      rw [he'] at hen
      obtain ⟨g5, g6, g7, g8, g9⟩ := rh_to5 hR
      obtain ⟨k0, k1, k2, k3, k4⟩ := hB.five
      by_cases h2 : c2 < 0
      · have HN : Hid (cvS s x.c = true) := Lib.hid (by rw [HV.out, decide_eq_true h1, he', decide_eq_true h2]; rfl)
        clear HV he he'
        go_wp2_with fail
        refine (H2.out _ hW).mono ?_
        rintro e w2 ⟨rfl, hb2⟩
        replace hR := hR.ext hb2
        replace hB := hB.ext hb2
        replace hW := ext_trans hW hb2
        clear hb2 H2 g5 g6 g7 g8 g9 k0 k1 k2 k3 k4 hen
        go_wp2
        go_ret
        exact ⟨congrArg (fun b => Ending.returned (.bool b)) (by first | exact HN.out.symm | (rw [HN.out]; exact decide_eq_false (by omega)) | (rw [HN.out]; exact decide_eq_true (by omega))), hW⟩
      · have HN : Hid (cvS s x.c = false) := Lib.hid (by rw [HV.out, he', decide_eq_false h2]; simp)
        clear HV he he'
        go_wp2_with fail
        refine (H2.out _ hW).mono ?_
        rintro e w2 ⟨rfl, hb2⟩
        replace hR := hR.ext hb2
        replace hB := hB.ext hb2
        replace hW := ext_trans hW hb2
        clear hb2 H2 g5 g6 g7 g8 g9 k0 k1 k2 k3 k4 hen
        go_wp2
        go_ret
        exact ⟨congrArg (fun b => Ending.returned (.bool b)) (by first | exact HN.out.symm | (rw [HN.out]; exact decide_eq_false (by omega)) | (rw [HN.out]; exact decide_eq_true (by omega))), hW⟩
  · have HN : Hid (cvS s x.c = false) := Lib.hid (by rw [HV.out, decide_eq_false h1]; rfl)
    clear HV H2
    go_wp2
    go_ret
    exact ⟨congrArg (fun b => Ending.returned (.bool b)) (by first | exact HN.out.symm | (rw [HN.out]; exact decide_eq_false (by omega)) | (rw [HN.out]; exact decide_eq_true (by omega))), hW⟩

theorem covers_pred (x : CA) (B : Nat) (w0 w : World) (h0 : Below w0.heap.size w0 w) (hx : x.ok w) (h5 : C5 w B x) : PredBelow Tryz.prog 43 #[.pointer (some ⟨B, 0, none⟩)] (fun s : {s : SA // s.ok w0} => .agg (saL s.1).toArray) (fun s => cvS s.1 x.c) w := fun W s hb => by
  have h := covers1_at s.1 x B W (s.2.ext (ext_trans h0 hb)) (hx.ext hb) (h5.ext hb)
  exact h.mono fun e w' he => ⟨he.1, ext_trans hb he.2⟩

set_option maxRecDepth 100000 in
set_option maxHeartbeats 8000000 in
theorem refCovers_at (l : List SA) (x : CA) (a : Option Addr) (n : Nat) (w : World) (h : RA w a n l) (hx : x.ok w) : Calls Tryz.prog 35 #[.slice a l.length n, .agg (caL x).toArray] w fun e w' => e = .returned (.bool (cvL l x.c)) ∧ Below w.heap.size w w' := by
  have hl63 := h.sl.len63
  have hm63 : n ≤ maxLen := by obtain ⟨_, _, e, h1, h2, _⟩ := h.sl; cases e; exact h2
  have hln : l.length ≤ n := by obtain ⟨_, _, e, h1, h2, _⟩ := h.sl; cases e; exact h1
  unfold maxLen at hm63
  have H := Lib.hid h
  have HX := Lib.hid hx
  clear h hx
  go_enter Tryz.func35, Tryz.ntmps35
  go_upto_region 1 with (fail)
  refine Nt.wp_row1 fun V hV hRx => ?_
  have h5 : C5 V w.heap.size x := ⟨fun j v hj => by rw [hRx.cell, List.getElem?_toArray, Nat.zero_add]; exact hj⟩
  clear hRx
  generalize hB9 : w.heap.size = B at h5
  clear hB9
  go_wp2
  go_loopw [9] (fun i wr => ∃ k : Nat, k ≤ l.length ∧ i = .int .i64 (k : Int) ∧ Hid (cvL l x.c = cvL (l.drop k) x.c) ∧ C5 wr B x ∧ Below w.heap.size w wr) (fun i _ => l.length - (intOf i).toNat)
  case atStart => exact ⟨0, by omega, rfl, rfl, h5, hV⟩
  case round =>
    obtain ⟨k, hk, rfl, HP, hB, hw⟩ := hrel
    clear h5
    generalize hX : wr = X at *
    clear hX
    by_cases hlt : k < l.length
    · obtain ⟨s, hs⟩ : ∃ s, l[k]? = some s := ⟨_, List.getElem?_eq_getElem hlt⟩
      obtain ⟨hok, p, o, rfl, hp0, hcell⟩ := (H.out.ext hw).at hs
      have HE : Hid (cvL l x.c = (cvS s x.c || cvL (l.drop (k + 1)) x.c)) := Lib.hid (by
        obtain ⟨hk2, e⟩ := List.getElem?_eq_some_iff.1 hs
        rw [HP.out, List.drop_eq_getElem_cons hk2, e]; rfl)
      obtain ⟨c1, hc1⟩ : ∃ z, cmpC s.fr.c x.c = z := ⟨_, rfl⟩
      obtain ⟨c2, hc2⟩ : ∃ z, cmpC x.c s.to.c = z := ⟨_, rfl⟩
      have HV : Hid (cvS s x.c = (decide (c1 ≤ 0) && (s.en || decide (c2 < 0)))) := Lib.hid (by rw [cvS_is, hc1, hc2])
      have H1 : Hid (∀ V, Below w.heap.size w V → Calls Tryz.prog 31 #[.agg (caL s.fr).toArray, .agg (caL x).toArray] V fun e w' => e = .returned (.int .i64 c1) ∧ Below V.heap.size V w') := Lib.hid (fun V hV => by
        subst hc1
        exact (refCompareCuts_at _ _ V (((H.out.ext hV).at hs).1).fr (HX.out.ext hV)).mono (fun e w' he => ⟨he.1, he.2⟩))
      have H2 : Hid (∀ V, Below w.heap.size w V → Calls Tryz.prog 31 #[.agg (caL x).toArray, .agg (caL s.to).toArray] V fun e w' => e = .returned (.int .i64 c2) ∧ Below V.heap.size V w') := Lib.hid (fun V hV => by
        subst hc2
        exact (refCompareCuts_at _ _ V (HX.out.ext hV) (((H.out.ext hV).at hs).1).to).mono (fun e w' he => ⟨he.1, he.2⟩))
      clear hc1 hc2
      clear hs HP
      go_upto_region 4 with (first | (refine wpList_load_agg rfl _ _ rfl p (o + k * 11) (by rfl) (saL s) (fun j v hj => by rw [Nat.add_assoc]; exact hcell j v hj) _ Tryz.underlying33 rfl (sa_info s) ?_) | (refine wpList_store_row rfl _ _ _ rfl X.heap.size (saL s).toArray rfl rfl _ _ (Nt.RH.new _ _ _) (sa_info s) rfl (sa_all s) ?_))
      refine wp_stored fun W hbW hR => ?_
      have hW := ext_trans hw hbW
      replace hB := hB.ext hbW
      clear hbW
      generalize hb : X.heap.size = b at *
      clear hb hcell hp0 hw
      go_wp2_with (first | (refine wpList_load_agg rfl _ _ rfl b 0 (by rfl) (caL s.fr) (rh_fr hR) _ Tryz.underlying31 rfl (ca_info s.fr) ?_) | (refine wpList_load_agg rfl _ _ rfl B 0 (by rfl) (caL x) hB.c _ Tryz.underlying31 rfl (ca_info x) ?_))
      refine (H1.out _ hW).mono ?_
      rintro e w1 ⟨rfl, hb1⟩
      replace hR := hR.ext hb1
      replace hB := hB.ext hb1
      replace hW := ext_trans hW hb1
      clear hb1 H1
      by_cases h1 : c1 ≤ 0
      · have hen := rh_en hR
        by_cases he : s.en = true
        · have HN : Hid (cvS s x.c = true) := Lib.hid (by rw [HV.out, decide_eq_true h1, he]; rfl)
          rw [he] at hen
          clear HV H2 he
          go_wp2
          go_ret
          exact ⟨congrArg (fun b => Ending.returned (.bool b)) (by rw [HE.out, HN.out]; rfl), hW⟩
        · have he' : s.en = false := by simpa using he
          rw [he'] at hen
          obtain ⟨g5, g6, g7, g8, g9⟩ := rh_to5 hR
          obtain ⟨k0, k1, k2, k3, k4⟩ := hB.five
          by_cases h2 : c2 < 0
          · have HN : Hid (cvS s x.c = true) := Lib.hid (by rw [HV.out, decide_eq_true h1, he', decide_eq_true h2]; rfl)
            clear HV he he'
            go_wp2_with fail
            refine (H2.out _ hW).mono ?_
            rintro e w2 ⟨rfl, hb2⟩
            replace hR := hR.ext hb2
            replace hB := hB.ext hb2
            replace hW := ext_trans hW hb2
            clear hb2 H2 g5 g6 g7 g8 g9 k0 k1 k2 k3 k4 hen
            go_wp2
            go_ret
            exact ⟨congrArg (fun b => Ending.returned (.bool b)) (by rw [HE.out, HN.out]; rfl), hW⟩
          · have HN : Hid (cvS s x.c = false) := Lib.hid (by rw [HV.out, he', decide_eq_false h2]; simp)
            clear HV he he'
            go_wp2_with fail
            refine (H2.out _ hW).mono ?_
            rintro e w2 ⟨rfl, hb2⟩
            replace hR := hR.ext hb2
            replace hB := hB.ext hb2
            replace hW := ext_trans hW hb2
            clear hb2 H2 g5 g6 g7 g8 g9 k0 k1 k2 k3 k4 hen
            go_wp2
            go_roundw
            case rel => exact ⟨k + 1, by omega, by go_num, (by have h9 := HE.out; rw [HN.out] at h9; exact h9), hB, hW⟩
            case measure => simp [intOf]; omega
      · have HN : Hid (cvS s x.c = false) := Lib.hid (by rw [HV.out, decide_eq_false h1]; rfl)
        clear HV H2
        go_wp2
        go_roundw
        case rel => exact ⟨k + 1, by omega, by go_num, (by have h9 := HE.out; rw [HN.out] at h9; exact h9), hB, hW⟩
        case measure => simp [intOf]; omega
    · have HN : Hid (cvL l x.c = false) := Lib.hid (by rw [HP.out, List.drop_eq_nil_of_le (by omega)]; rfl)
      clear HP
      go_wp2
      go_ret
      exact ⟨congrArg (fun b => Ending.returned (.bool b)) HN.out.symm, hw⟩

instance okInh (w : World) : Inhabited {s : SA // s.ok w} := ⟨⟨⟨zeroA, zeroA, false⟩, zeroA_ok w, zeroA_ok w⟩⟩
set_option maxRecDepth 100000 in
set_option maxHeartbeats 4000000 in
theorem indexNone (a : Option Addr) (c : Nat) (f : Value) (w : World) : Calls Tryz.prog 68 #[.slice a 0 c, f] w fun e w' => e = .returned (.int .i64 (-1)) ∧ w = w' := by
  go_enter Tryz.func68, Tryz.ntmps68
  go_wp2
  go_rounds 1
  go_ret
  exact ⟨rfl, rfl⟩
set_option maxRecDepth 100000 in
set_option maxHeartbeats 4000000 in
theorem containsNone (a : Option Addr) (c : Nat) (f : Value) (w : World) : Calls Tryz.prog 42 #[.slice a 0 c, f] w fun e w' => e = .returned (.bool false) ∧ w = w' := by
  go_enter Tryz.func42, Tryz.ntmps42
  go_wp2_with (go_at_call 68; refine (indexNone _ _ _ _).mono ?_; rintro e w' ⟨rfl, rfl⟩)
  go_ret
  exact ⟨rfl, rfl⟩
theorem contains_at (l : List SA) (x : CA) (a : Option Addr) (n : Nat) (w0 w : World) (B : Nat) (h : RA w0 a n l) (hb : Below w0.heap.size w0 w) (hx : x.ok w) (h5 : C5 w B x) :
    Calls Tryz.prog 42 #[.slice a l.length n, .func (.func 43) #[] #[.pointer (some ⟨B, 0, none⟩)]] w fun e w' => e = .returned (.bool (cvL l x.c)) ∧ Below w.heap.size w w' := by
  cases l with
  | nil =>
    refine (containsNone a n _ w).mono ?_
    rintro e w' ⟨rfl, rfl⟩
    exact ⟨rfl, Below.refl _ _⟩
  | cons s0 r =>
    obtain ⟨_, b, o, rfl, hlt, _⟩ := h.at (k := 0) (s := s0) rfl
    have hl63 := h.sl.len63
    generalize hl : s0 :: r = l at *
    have hmap : (l.attachWith (fun s => s.ok w0) h.ok).map (·.1) = l := by simp
    have hlen : (l.attachWith (fun s => s.ok w0) h.ok).length = l.length := by simp
    have hc := AnyQ.slices_ContainsFunc Tryz.contStr 11 Tryz.isAgg33 Tryz.sizeOf33 (fun s : {s : SA // s.ok w0} => saL s.1) (fun s => saL_len s.1) (fun s => cvS s.1 x.c) 43 #[.pointer (some ⟨B, 0, none⟩)] (enters_of Tryz.func43 (by kernel_rfl) rfl) b o l.length n (l.attachWith (fun s => s.ok w0) h.ok) w
      (covers_pred x B w0 w hb hx h5) (by rw [hlen]; exact Nat.le_refl _) hl63 (Nat.lt_of_lt_of_le hlt hb.size) (fun j hj i v hv => by
        have hj' : j < l.length := by rw [← hlen]; exact hj
        rw [getElem!_pos _ j hj] at hv
        have hg : l[j]? = some ((l.attachWith (fun s => s.ok w0) h.ok)[j]).1 := by
          rw [List.getElem?_eq_getElem hj']; simp
        obtain ⟨_, b', o', e, _, hc⟩ := h.at hg
        cases e
        have := hc i v hv
        rw [Nat.add_assoc]
        exact cell_later hb this)
    refine hc.mono ?_
    rintro e w' ⟨rfl, hb'⟩
    refine ⟨?_, hb'⟩
    have e1 : ((l.attachWith (fun s => s.ok w0) h.ok).take l.length).any (fun s => cvS s.1 x.c) = cvL l x.c := by
      rw [List.take_of_length_le (by rw [hlen]; exact Nat.le_refl _)]
      unfold cvL
      conv => rhs; rw [← hmap]
      rw [List.any_map]; rfl
    rw [e1]
set_option maxRecDepth 100000 in
set_option maxHeartbeats 8000000 in
theorem covers_at (l : List SA) (x : CA) (a : Option Addr) (n : Nat) (w : World) (h : RA w a n l) (hx : x.ok w) : Calls Tryz.prog 27 #[.slice a l.length n, .agg (caL x).toArray] w fun e w' => e = .returned (.bool (cvL l x.c)) ∧ Below w.heap.size w w' := by
  have HC : Hid (∀ V B, Below w.heap.size w V → C5 V B x → Calls Tryz.prog 42 #[.slice a l.length n, .func (.func 43) #[] #[.pointer (some ⟨B, 0, none⟩)]] V fun e w' => e = .returned (.bool (cvL l x.c)) ∧ Below V.heap.size V w') := Lib.hid (fun V B hV h5 => contains_at l x a n w V B h hV (hx.ext hV) h5)
  clear h hx
  go_enter Tryz.func27, Tryz.ntmps27
  go_upto_region 1 with (fail)
  have h5 := C5.new w x 31
  have hb := ext_alloc w (.cells (caL x).toArray 31)
  go_wp2_with fail
  refine (HC.out _ _ hb h5).mono ?_
  rintro e w' ⟨rfl, hb'⟩
  go_wp2
  go_ret
  exact ⟨rfl, ext_trans hb hb'⟩

end Rg
end Go.Proofs.YtiogfdkdhfmamaaGreatDoor
namespace Go.Proofs.YtiogfdkdhfmamaaGreatDoor
open Go.RowKit
namespace Rg
open _root_.Go.Proofs.YtiogfdkdhfmamaaGreatDoor.Nt (RH RH.cell RH.box RH.lt RH.new RH.ext RH.fre RH.set RH.other)
/-- a row of cuts, of stretches of the call's own -/
abbrev OC (w : World) (base : Nat) (v : Value) (U : List CA) : Prop := w.ownsRow base 31 5 v U.length (U.flatMap caL)
abbrev OS (w : World) (base : Nat) (v : Value) (U : List SA) : Prop := w.ownsRow base 33 11 v U.length (U.flatMap saL)
theorem cut_info : (Tryz.prog.info? 31).map (fun i => (i.zero, i.size, i.bytes)) = some (some (.agg #[.int .i64 0, .int .i64 0, .int .i64 0, .slice none 0 0, .bool false]), 5, 56) := by kernel_rfl
theorem str_info : (Tryz.prog.info? 33).map (fun i => (i.zero, i.size, i.bytes)) = some (some (.agg #[.int .i64 0, .int .i64 0, .int .i64 0, .slice none 0 0, .bool false, .int .i64 0, .int .i64 0, .int .i64 0, .slice none 0 0, .bool false, .bool false]), 11, 120) := by kernel_rfl
theorem wpList_append_cut {ops : Array Oper} {rest : List Oper} {o : Oper} {a : Act} {w : World} {Q : Exit → Act → World → Prop} (hgd : o.guard = none) (s x : Operand)
    (ho : o.op = .call { callee := .builtin .append, args := #[s, x], argTypes := #[46, 46] })
    (base : Nat) (v : Value) (U : List CA) (hs : a.eval s = v) (hown : OC w base v U) (B c : Nat) (y : CA) (hx : a.eval x = .slice (some ⟨B, 0, none⟩) 1 c) (h5 : C5 w B y) (hl : U.length ≤ 100000) (hbase : base ≤ w.heap.size)
    (h : ∀ v' w', OC w' base v' (U ++ [y]) → w.grownBy w' v.ownBlock → wpList Tryz.prog ops Q rest (a.put o.dst v') w') : wpList Tryz.prog ops Q (o :: rest) a w := by
  obtain ⟨i, hi⟩ : ∃ i, Tryz.prog.info? 31 = some i := by
    cases hq : Tryz.prog.info? 31 with
    | none => have := cut_info; rw [hq] at this; cases this
    | some i => exact ⟨i, rfl⟩
  have hci := cut_info
  rw [hi] at hci
  simp only [Option.map_some, Option.some.injEq, Prod.mk.injEq] at hci
  obtain ⟨h1, h2, h3⟩ := hci
  refine wpList_append_own w hgd s x _ ho base _ i _ 5 56 Tryz.underlying46 hi h1 h2 h3 rfl (by decide) v U.length _ hs hown ⟨B, 0, none⟩ 1 c (caL y) hx rfl (fun j u hu => by rw [add_spot]; exact h5.c j u hu) (caL_one y) (by unfold maxLen; omega) (by omega) hbase fun v' w' g1 g2 _ => ?_
  refine h v' w' ?_ g2
  have e : (U ++ [y]).flatMap caL = U.flatMap caL ++ caL y := by simp
  show w'.ownsRow base _ 5 v' (U ++ [y]).length _
  rw [e, List.length_append]; exact g1
/-- the eleven cells of a stretch -/
structure C11 (w : World) (B : Nat) (x : SA) : Prop where
  c : ∀ (j : Nat) (v : Value), (saL x)[j]? = some v → w.cell? ⟨B, 0 + j, none⟩ = some v
theorem C11.new (w : World) (x : SA) (t : TypeId) : C11 (w.alloc (.cells (saL x).toArray t)) w.heap.size x := ⟨fun j v hj => by
  rw [(Nt.RH.new w _ t).cell, List.getElem?_toArray, Nat.zero_add]; exact hj⟩
theorem wpList_append_str {ops : Array Oper} {rest : List Oper} {o : Oper} {a : Act} {w : World} {Q : Exit → Act → World → Prop} (hgd : o.guard = none) (s x : Operand)
    (ho : o.op = .call { callee := .builtin .append, args := #[s, x], argTypes := #[22, 22] })
    (base : Nat) (v : Value) (U : List SA) (hs : a.eval s = v) (hown : OS w base v U) (B c : Nat) (y : SA) (hx : a.eval x = .slice (some ⟨B, 0, none⟩) 1 c) (h5 : C11 w B y) (hl : U.length ≤ 100000) (hbase : base ≤ w.heap.size)
    (h : ∀ v' w', OS w' base v' (U ++ [y]) → w.grownBy w' v.ownBlock → wpList Tryz.prog ops Q rest (a.put o.dst v') w') : wpList Tryz.prog ops Q (o :: rest) a w := by
  obtain ⟨i, hi⟩ : ∃ i, Tryz.prog.info? 33 = some i := by
    cases hq : Tryz.prog.info? 33 with
    | none => have := str_info; rw [hq] at this; cases this
    | some i => exact ⟨i, rfl⟩
  have hci := str_info
  rw [hi] at hci
  simp only [Option.map_some, Option.some.injEq, Prod.mk.injEq] at hci
  obtain ⟨h1, h2, h3⟩ := hci
  refine wpList_append_own w hgd s x _ ho base _ i _ 11 120 Tryz.underlying22 hi h1 h2 h3 rfl (by decide) v U.length _ hs hown ⟨B, 0, none⟩ 1 c (saL y) hx rfl (fun j u hu => by rw [add_spot]; exact h5.c j u hu) (saL_one y) (by unfold maxLen; omega) (by omega) hbase fun v' w' g1 g2 _ => ?_
  refine h v' w' ?_ g2
  have e : (U ++ [y]).flatMap saL = U.flatMap saL ++ saL y := by simp
  show w'.ownsRow base _ 11 v' (U ++ [y]).length _
  rw [e, List.length_append]; exact g1
/-- the places of a stretch, of a range -/
def cutsA (s : SA) : List CA := s.fr :: if s.en = true then [] else [s.to]
def cutsAL (l : List SA) : List CA := l.flatMap cutsA
theorem cutsA_is (s : SA) : (cutsA s).map (·.c) = cutsS (toS s.raw) := by
  unfold cutsA cutsS toS SA.raw
  cases s.en <;> simp
theorem cutsAL_is (l : List SA) : (cutsAL l).map (·.c) = cutsL ((l.map SA.raw).map toS) := by
  unfold cutsAL cutsL
  induction l with
  | nil => rfl
  | cons s r ih => simp only [List.flatMap_cons, List.map_append, List.map_cons, cutsA_is, ih]
theorem cutsAL_len (l : List SA) : (cutsAL l).length ≤ 2 * l.length := by
  unfold cutsAL
  induction l with
  | nil => exact Nat.zero_le _
  | cons s r ih =>
    have : (cutsA s).length ≤ 2 := by unfold cutsA; split <;> simp
    simp only [List.flatMap_cons, List.length_append, List.length_cons]; omega
theorem cutsA_ok {w : World} {s : SA} (h : s.ok w) : ∀ c ∈ cutsA s, c.ok w := by
  intro c hc
  unfold cutsA at hc
  rcases List.mem_cons.1 hc with rfl | hc
  · exact h.fr
  · split at hc
    · cases hc
    · rw [List.mem_singleton.1 hc]; exact h.to
theorem cutsAL_ok {w : World} {l : List SA} (h : ∀ s ∈ l, s.ok w) : ∀ c ∈ cutsAL l, c.ok w := by
  intro c hc
  obtain ⟨s, hs, hc⟩ := List.mem_flatMap.1 hc
  exact cutsA_ok (h s hs) c hc
theorem cutsAL_take {l : List SA} {k : Nat} {s : SA} (h : l[k]? = some s) : cutsAL (l.take (k + 1)) = cutsAL (l.take k) ++ cutsA s := by
  obtain ⟨hk, rfl⟩ := List.getElem?_eq_some_iff.1 h
  unfold cutsAL
  rw [List.take_succ_eq_append_getElem hk, List.flatMap_append]; simp
/-- cells written one behind the other into a list -/
def setL : List Value → Nat → List Value → List Value
  | xs, _, [] => xs
  | xs, o, v :: r => setL (xs.set o v) (o + 1) r
theorem setL_mid : ∀ (vs A B T : List Value), B.length = vs.length → setL (A ++ (B ++ T)) A.length vs = A ++ (vs ++ T)
  | [], A, B, T, h => by
    have : B = [] := List.length_eq_zero_iff.1 h
    subst this; rfl
  | v :: r, A, B, T, h => by
    cases B with
    | nil => cases h
    | cons b B =>
      unfold setL
      have e : (A ++ (b :: B ++ T)).set A.length v = (A ++ [v]) ++ (B ++ T) := by
        rw [List.set_append_right _ _ (Nat.le_refl _)]; simp
      have h2 := setL_mid r (A ++ [v]) B T (by simpa using h)
      rw [e, show A.length + 1 = (A ++ [v]).length by simp, h2]; simp
theorem ownsRow_setCells {base : Nat} {e : TypeId} {size g n cap : Nat} : ∀ (vs : List Value) (o : Nat) (w : World) (xs : List Value), w.ownsRow base e size (.slice (some ⟨g, 0, none⟩) n cap) n xs →
    (w.setCells g o vs).ownsRow base e size (.slice (some ⟨g, 0, none⟩) n cap) n (setL xs o vs) ∧ w.grownBy (w.setCells g o vs) (some g)
  | [], _, w, _, h => ⟨h, World.grownBy.refl w _⟩
  | v :: r, o, w, xs, h => by
    have h1 := h.stored o v
    have h2 := ownsRow_setCells r (o + 1) _ _ h1.1
    exact ⟨h2.1, h1.2.trans h2.2⟩
/-- a value written into the middle of a row of the call's own -/
theorem wpList_store_own {P : Program} {ops : Array Oper} {rest : List Oper} {op : Oper} {a : Act} {w : World} {Q : Exit → Act → World → Prop} (hgd : op.guard = none) (ty : TypeId) (x y : Operand) (ho : op.op = .store ty x y)
    (g o : Nat) (v : Value) (L : List Value) (hx : a.eval x = .pointer (some ⟨g, o, none⟩)) (hy : a.eval y = v) (hv : v.cells = L.toArray) (base : Nat) (e : TypeId) (size n cap : Nat) (xs : List Value) (hown : w.ownsRow base e size (.slice (some ⟨g, 0, none⟩) n cap) n xs)
    (hfit : o + L.length ≤ n * size) (hi : (P.info? ty).map (·.size) = some L.length) (h1 : ∀ u ∈ L, u.oneCell' = true)
    (h : ∀ w', w'.ownsRow base e size (.slice (some ⟨g, 0, none⟩) n cap) n (setL xs o L) → w.grownBy w' (some g) → wpList P ops Q rest (a.put op.dst undef) w') : wpList P ops Q (op :: rest) a w := by
  obtain ⟨k1, k2⟩ := ownsRow_setCells L o w xs hown
  refine wpList_plain hgd fun K hK => ?_
  have hst : (Instr.storeAt ty (.pointer (some ⟨g, o, none⟩)) v).run P w = .ok () (w.setCells g o L) := by
    have hxl : xs.length = n * size := hown.1
    have := run_storeCells_cells (P := P) g o L 0 w (fun j hj => by
      rw [hown.cellAt (o + 0 + j) (by omega), List.getElem?_eq_getElem (by omega)]; rfl) (fun j hj => hown.frozenAt _) h1
    simp only [Instr.storeAt, Instr.sureAddr, Sem.run_bind, Sem.run_pure, Result.andThen_ok]
    cases hq : P.info? ty with
    | none => simp [hq] at hi
    | some i =>
      have hs : L.length = i.size := by simp [hq] at hi; omega
      simp only [Nat.add_zero] at this
      simp [storeVar, sizeOf, typeInfo, hq, hv, hs, this]
  have : op.wp P a w K Q := by
    unfold Oper.wp execOp
    simp only [ho, hx, hy, Sem.run_bind, hst, Result.andThen_ok, Sem.run_pure]
    exact hK _ _ (h _ k1 k2)
  exact this
/-- the last stretch of a row gets its end -/
theorem str_end (U : List SA) (s : SA) (c : CA) : setL (setL ((U ++ [s]).flatMap saL) (U.length * 11 + 5) (caL c)) (U.length * 11 + 10) [.bool false] = (U ++ [SA.mk s.fr c false]).flatMap saL := by
  have hU : (U.flatMap saL).length = U.length * 11 := flat_length saL_len U
  have e1 : (U ++ [s]).flatMap saL = (U.flatMap saL ++ caL s.fr) ++ (caL s.to ++ [.bool s.en]) := by simp [saL]
  have l1 : (U.flatMap saL ++ caL s.fr).length = U.length * 11 + 5 := by rw [List.length_append, hU, caL_len]
  have h1 := setL_mid (caL c) (U.flatMap saL ++ caL s.fr) (caL s.to) [.bool s.en] (by rw [caL_len, caL_len])
  rw [l1] at h1
  rw [e1, h1]
  have l2 : (U.flatMap saL ++ caL s.fr ++ caL c).length = U.length * 11 + 10 := by rw [List.length_append, l1, caL_len]
  have h2 := setL_mid [.bool false] (U.flatMap saL ++ caL s.fr ++ caL c) [.bool s.en] [] rfl
  rw [l2] at h2
  rw [show U.flatMap saL ++ caL s.fr ++ (caL c ++ [.bool s.en]) = U.flatMap saL ++ caL s.fr ++ caL c ++ ([.bool s.en] ++ []) by simp, h2]
  simp [saL]
end Rg
end Go.Proofs.YtiogfdkdhfmamaaGreatDoor
