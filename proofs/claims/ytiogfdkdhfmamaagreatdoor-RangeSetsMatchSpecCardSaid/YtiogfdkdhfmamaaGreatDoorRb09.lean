/- CheckRange of the program and of the reference. Printed by gen_ckr.py. -/
import Derived.Test.YtiogfdkdhfmamaaGreatDoorRb08
namespace Go.Proofs.YtiogfdkdhfmamaaGreatDoor
open Go.RowKit
namespace Rg
open _root_.Go.Proofs.YtiogfdkdhfmamaaGreatDoor.Nt (RH RH.cell RH.box RH.lt RH.new RH.ext RH.fre RH.set RH.other)
def prv (L : List RS) : Nat → Option RS
  | 0 => none
  | k + 1 => L[k]?
/-- where a stretch is right by itself: what the one ahead of it says -/
def chkP (p : Option RS) (s : RS) : Int := match p with
  | none => 0
  | some q => if q.en = true ∨ 0 ≤ cmpC q.to s.fr then 8 else 0
theorem chkT_is (p : Option RS) (s : RS) : chkT p s = if chkVer s.fr.v ≠ 0 then chkVer s.fr.v else if s.en = true ∧ isZ s.to = false then 3 else if s.en = false ∧ chkVer s.to.v ≠ 0 then chkVer s.to.v else if s.en = false ∧ 0 ≤ cmpC s.fr s.to then 8 else chkP p s := rfl
theorem chk_end {p : Option RS} {l : List RS} (h : l = []) : chkFrom p l = 0 := by subst h; rfl
theorem chk_bad {A : Int} {p : Option RS} {s : RS} {t f : Int} (h1 : A = if chkT p s ≠ 0 then chkT p s else t) (h2 : chkT p s = f) (h3 : f ≠ 0) : A = f := by rw [h1, h2, if_pos h3]
theorem chk_good {A : Int} {p : Option RS} {s : RS} {t : Int} (h1 : A = if chkT p s ≠ 0 then chkT p s else t) (h2 : chkT p s = 0) : A = t := by rw [h1, h2, if_neg (by simp)]
theorem cmpC_turn (a b : Ct) : (cmpC a b ≤ 0) ↔ 0 ≤ cmpC b a := by have := linC.anti a b; omega
theorem rh_to5 {w : World} {b : Nat} {t : TypeId} {s : SA} (h : RH w b (saL s).toArray t) : w.cell? ⟨b, 5, none⟩ = some (.int .i64 s.to.c.v.ma) ∧ w.cell? ⟨b, 6, none⟩ = some (.int .i64 s.to.c.v.mi) ∧ w.cell? ⟨b, 7, none⟩ = some (.int .i64 s.to.c.v.pa) ∧ w.cell? ⟨b, 8, none⟩ = some (.slice s.to.a s.to.c.v.pre.length s.to.n) ∧ w.cell? ⟨b, 9, none⟩ = some (.bool s.to.c.af) :=
  ⟨rh_to h 0 _ rfl, rh_to h 1 _ rfl, rh_to h 2 _ rfl, rh_to h 3 _ rfl, rh_to h 4 _ rfl⟩
abbrev saA (s : SA) : Array Value := #[.int .i64 s.fr.c.v.ma, .int .i64 s.fr.c.v.mi, .int .i64 s.fr.c.v.pa, .slice s.fr.a s.fr.c.v.pre.length s.fr.n, .bool s.fr.c.af, .int .i64 s.to.c.v.ma, .int .i64 s.to.c.v.mi, .int .i64 s.to.c.v.pa, .slice s.to.a s.to.c.v.pre.length s.to.n, .bool s.to.c.af, .bool s.en]
abbrev C6 (w : World) (b p : Nat) (q : SA) : Prop := w.cell? ⟨b, p + 5, none⟩ = some (.int .i64 q.to.c.v.ma) ∧ w.cell? ⟨b, p + 6, none⟩ = some (.int .i64 q.to.c.v.mi) ∧ w.cell? ⟨b, p + 7, none⟩ = some (.int .i64 q.to.c.v.pa) ∧ w.cell? ⟨b, p + 8, none⟩ = some (.slice q.to.a q.to.c.v.pre.length q.to.n) ∧ w.cell? ⟨b, p + 9, none⟩ = some (.bool q.to.c.af) ∧ w.cell? ⟨b, p + 10, none⟩ = some (.bool q.en)
theorem C6.ext {w w' : World} {b p : Nat} {q : SA} (h : C6 w b p q) (hb : Below w.heap.size w w') : C6 w' b p q :=
  ⟨cell_later hb h.1, cell_later hb h.2.1, cell_later hb h.2.2.1, cell_later hb h.2.2.2.1, cell_later hb h.2.2.2.2.1, cell_later hb h.2.2.2.2.2⟩
theorem c6_of {w : World} {b o k : Nat} {q : SA} (h : ∀ (j : Nat) (x : Value), (saL q)[j]? = some x → w.cell? ⟨b, o + (k * 11 + j), none⟩ = some x) : C6 w b (o + k * 11) q := by
  refine ⟨?_, ?_, ?_, ?_, ?_, ?_⟩
  all_goals
    rw [Nat.add_assoc]
    exact h _ _ rfl
abbrev SC (W : World) (B : Nat) (s : SA) (b p : Nat) (q : SA) (w' : World) : Prop := Below W.heap.size W w' ∧ (∀ j, w'.cell? ⟨B, j, none⟩ = (saA s)[j]?) ∧ C6 w' b p q
theorem SC.start {W : World} {B b p : Nat} {s q : SA} (h1 : Box W B (saA s)) (h2 : C6 W b p q) : SC W B s b p q W.drew := ⟨(Below.refl _ _).drew, h1.2, h2⟩
theorem SC.ext {W w1 w2 : World} {B b p : Nat} {s q : SA} (hb : Below w1.heap.size w1 w2) (h : SC W B s b p q w1) (h1 : Box W B (saA s)) : SC W B s b p q w2 :=
  ⟨ext_trans h.1 hb, fun j => (hb.cell (p := ⟨B, j, none⟩) (Nat.lt_of_lt_of_le h1.1 h.1.size)).trans (h.2.1 j), h.2.2.ext hb⟩

set_option maxRecDepth 100000 in
set_option maxHeartbeats 16000000 in
theorem checkRange_at (l : List SA) (a : Option Addr) (n : Nat) (w : World) (h : RA w a n l) : Calls Tryz.prog 24 #[.slice a l.length n] w fun e w' => e = .returned (.int .i64 (chkR (l.map SA.raw))) ∧ Below w.heap.size w w' := by
  have hl63 := h.sl.len63
  have hm63 : n ≤ maxLen := by obtain ⟨_, _, e, h1, h2, _⟩ := h.sl; cases e; exact h2
  have hln : l.length ≤ n := by obtain ⟨_, _, e, h1, h2, _⟩ := h.sl; cases e; exact h1
  unfold maxLen at hm63
  by_cases hbig : 100 < l.length
  · have HN : Hid (chkR (l.map SA.raw) = 2) := Lib.hid (by unfold chkR; rw [if_pos (by rw [List.length_map]; exact hbig)])
    have hb : (100 : Int) < (l.length : Int) := by omega
    go_enter Tryz.func24, Tryz.ntmps24
    go_wp2
    go_ret
    exact ⟨ret_int HN.out.symm, Below.refl _ _⟩
  have HV : Hid (chkR (l.map SA.raw) = chkFrom none (l.map SA.raw)) := Lib.hid (by unfold chkR; rw [if_neg (by rw [List.length_map]; exact hbig)])
  have hb : ¬ (100 : Int) < (l.length : Int) := by omega
  have H := Lib.hid h
  clear h
  go_enter Tryz.func24, Tryz.ntmps24
  go_wp2
  go_loopw [12] (fun i wr => ∃ k : Nat, k ≤ l.length ∧ i = .int .i64 (k : Int) ∧ Hid (chkR (l.map SA.raw) = chkFrom (prv (l.map SA.raw) k) ((l.map SA.raw).drop k)) ∧ Below w.heap.size w wr) (fun i _ => l.length - (intOf i).toNat)
  case atStart => exact ⟨0, by omega, rfl, HV.out, Below.refl _ _⟩
  case round =>
    obtain ⟨k, hk, rfl, HP, hw⟩ := hrel
    clear HV
    generalize hX : wr = X at *
    clear hX
    by_cases hlt : k < l.length
    · obtain ⟨s, hs⟩ : ∃ s, l[k]? = some s := ⟨_, List.getElem?_eq_getElem hlt⟩
      obtain ⟨hok, b, o, rfl, hb0, hcell⟩ := (H.out.ext hw).at hs
      have HF : Hid (∀ W, Below w.heap.size w W → Calls Tryz.prog 37 #[.agg (vaL s.fr).toArray] W fun e w' => e = .returned (.int .i64 (chkVer s.fr.c.v)) ∧ Below W.heap.size W w') := Lib.hid (fun W hW => checkVersion_at _ _ W ((H.out.ext hW).at hs).1.fr.rep)
      have HT : Hid (∀ W, Below w.heap.size w W → Calls Tryz.prog 37 #[.agg (vaL s.to).toArray] W fun e w' => e = .returned (.int .i64 (chkVer s.to.c.v)) ∧ Below W.heap.size W w') := Lib.hid (fun W hW => checkVersion_at _ _ W ((H.out.ext hW).at hs).1.to.rep)
      have HZ : Hid (∀ W, Below w.heap.size w W → Calls Tryz.prog 38 #[.agg (caL s.to).toArray] W fun e w' => e = .returned (.bool (isZ s.to.c)) ∧ Below W.heap.size W w') := Lib.hid (fun W hW => isZero_at _ W ((H.out.ext hW).at hs).1.to)
      have HC : Hid (∀ W, Below w.heap.size w W → Calls Tryz.prog 26 #[.agg (caL s.fr).toArray, .agg (caL s.to).toArray] W fun e w' => e = .returned (.int .i64 (cmpC s.fr.c s.to.c)) ∧ Below W.heap.size W w') := Lib.hid (fun W hW => (compareCuts_g _ _ W ((H.out.ext hW).at hs).1.fr ((H.out.ext hW).at hs).1.to).mono (fun e w' he => ⟨he.1, he.2.1⟩))
      have HE : Hid (chkR (l.map SA.raw) = if chkT (prv (l.map SA.raw) k) s.raw ≠ 0 then chkT (prv (l.map SA.raw) k) s.raw else chkFrom (some s.raw) ((l.map SA.raw).drop (k + 1))) := Lib.hid (by rw [HP.out, chkFrom_step _ (show (l.map SA.raw)[k]? = some s.raw by rw [List.getElem?_map, hs]; rfl)])
      have HD : Hid (chkT (prv (l.map SA.raw) k) s.raw = if chkVer s.fr.c.v ≠ 0 then chkVer s.fr.c.v else if s.en = true ∧ isZ s.to.c = false then 3 else if s.en = false ∧ chkVer s.to.c.v ≠ 0 then chkVer s.to.c.v else if s.en = false ∧ 0 ≤ cmpC s.fr.c s.to.c then 8 else chkP (prv (l.map SA.raw) k) s.raw) := Lib.hid (chkT_is _ _)
      have HS : Hid (l[k]? = some s) := Lib.hid hs
      clear hs HP
      go_upto_region 6 with (first | (refine wpList_load_agg rfl _ _ rfl b (o + k * 11) (by rfl) (saL s) (fun j v hj => by rw [Nat.add_assoc]; exact hcell j v hj) _ Tryz.underlying33 rfl (sa_info s) ?_) | (refine wpList_store_row rfl _ _ _ rfl X.heap.size (saL s).toArray rfl rfl _ _ (Nt.RH.new _ _ _) (sa_info s) rfl (sa_all s) ?_))
      refine wp_stored fun W hbW hR => ?_
      have hwW := ext_trans hw hbW
      have hXW : X.heap.size < W.heap.size := hR.lt
      go_wp2_with (first | (refine wpList_load_agg rfl _ _ rfl X.heap.size 0 (by rfl) (vaL s.fr) (rh_frv hR) _ Tryz.underlying29 rfl (va_info s.fr) ?_) | (refine wpList_load_agg rfl _ _ rfl X.heap.size 5 (by rfl) (vaL s.to) (rh_tov hR) _ Tryz.underlying29 rfl (va_info s.to) ?_) | (refine wpList_load_agg rfl _ _ rfl X.heap.size 0 (by rfl) (caL s.fr) (rh_fr hR) _ Tryz.underlying31 rfl (ca_info s.fr) ?_) | (refine wpList_load_agg rfl _ _ rfl X.heap.size 5 (by rfl) (caL s.to) (rh_to hR) _ Tryz.underlying31 rfl (ca_info s.to) ?_))
      refine (HF.out _ hwW).mono ?_
      rintro e w1 ⟨rfl, hb1⟩
      replace hR := hR.ext hb1
      replace hwW := ext_trans hwW hb1
      clear HF hbW hXW hb1
      generalize hB : X.heap.size = B at *
      clear hB hcell hb0 hw
      by_cases hf : chkVer s.fr.c.v = 0
      · have HD2 := Lib.hid (HD.out.trans (if_neg (by rw [hf]; decide)))
        rw [hf]
        clear HD hf
        have hen := rh_en hR
        by_cases he : s.en = true
        · rw [he] at hen
          by_cases hz : isZ s.to.c = true
          · have HD5 := Lib.hid (HD2.out.trans ((if_neg (by rw [hz]; simp)).trans ((if_neg (by rw [he]; simp)).trans (if_neg (by rw [he]; simp)))))
            rw [hz] at HZ
            clear HD2 hz
            go_wp2_with (first | (refine wpList_load_agg rfl _ _ rfl B 0 (by rfl) (vaL s.fr) (rh_frv hR) _ Tryz.underlying29 rfl (va_info s.fr) ?_) | (refine wpList_load_agg rfl _ _ rfl B 5 (by rfl) (vaL s.to) (rh_tov hR) _ Tryz.underlying29 rfl (va_info s.to) ?_) | (refine wpList_load_agg rfl _ _ rfl B 0 (by rfl) (caL s.fr) (rh_fr hR) _ Tryz.underlying31 rfl (ca_info s.fr) ?_) | (refine wpList_load_agg rfl _ _ rfl B 5 (by rfl) (caL s.to) (rh_to hR) _ Tryz.underlying31 rfl (ca_info s.to) ?_))
            refine (HZ.out _ hwW).mono ?_
            rintro e w2 ⟨rfl, hb2⟩
            replace hR := hR.ext hb2
            replace hwW := ext_trans hwW hb2
            clear hb2 hen 
            have hen := rh_en hR
            rw [he] at hen
            clear he
            generalize hW1 : w2 = w1 at *
            clear hW1
            -- what stands ahead of it
            clear HC HT HZ
            by_cases h0 : k = 0
            · subst h0
              have HN : Hid (chkR (l.map SA.raw) = chkFrom (prv (l.map SA.raw) (0 + 1)) ((l.map SA.raw).drop (0 + 1))) := Lib.hid (by
                have h1 := chk_good HE.out HD5.out
                rw [show prv (l.map SA.raw) (0 + 1) = some s.raw by show (l.map SA.raw)[0]? = _; rw [List.getElem?_map, HS.out]; rfl]
                exact h1)
              clear HE HD5
              go_wp2_with fail
              go_quiet (fail)
              go_wp2
              exact ⟨⟨0 + 1, by omega, rfl, HN, below_drewN hwW _⟩, by simp [intOf]; omega⟩
            · obtain ⟨j, rfl⟩ : ∃ j, k = j + 1 := ⟨k - 1, by omega⟩
              obtain ⟨q, hq⟩ : ∃ q, l[j]? = some q := ⟨_, List.getElem?_eq_getElem (show j < l.length by omega)⟩
              obtain ⟨_, b', o', hb', _, hcq⟩ := (H.out.ext hwW).at hq
              cases hb'
              have h6 := c6_of hcq
              have HQ : Hid (∀ W, Below w.heap.size w W → Calls Tryz.prog 26 #[.agg (caL q.to).toArray, .agg (caL s.fr).toArray] W fun e w' => e = .returned (.int .i64 (cmpC q.to.c s.fr.c)) ∧ Below W.heap.size W w') := Lib.hid (fun W hW => (compareCuts_g _ _ W ((H.out.ext hW).at hq).1.to ((H.out.ext hW).at HS.out).1.fr).mono (fun e w' he => ⟨he.1, he.2.1⟩))
              have HG : Hid (chkT (prv (l.map SA.raw) (j + 1)) s.raw = if q.en = true ∨ 0 ≤ cmpC q.to.c s.fr.c then 8 else 0) := Lib.hid (by
                rw [HD5.out, show prv (l.map SA.raw) (j + 1) = some q.raw by show (l.map SA.raw)[j]? = _; rw [List.getElem?_map, hq]; rfl]
                rfl)
              have hX : Box w1 B (saA s) := hR.box
              obtain ⟨f0, f1, f2, f3, f4, f5⟩ := id h6
              clear hcq hq HD5 h0 hR
              have hj0 : (0 : Int) ≤ (j : Int) := Int.natCast_nonneg _
              have hj1 : (j : Int) < (l.length : Int) := by omega
              have hpos : decide ((0 : Int) < (j : Int) + 1) = true := decide_eq_true (by omega)
              have hwj : IntKind.i64.wrap (j : Int) = (j : Int) := IntWalk.i64_in _ (by omega)
              by_cases hqe : q.en = true
              · have HN := Lib.hid (chk_bad HE.out (HG.out.trans (if_pos (.inl hqe))) (by decide))
                rw [hqe] at f5
                clear HE HG HQ h6 hX f0 f1 f2 f3 f4
                go_wp2_with fail
                go_quiet (fail)
                go_wp2
                go_ret
                exact ⟨ret_int HN.out.symm, below_drewN hwW _⟩
              · have hqf : q.en = false := by simpa using hqe
                clear hqe f0 f1 f2 f3 f4 f5
                have HG2 : Hid (chkT (prv (l.map SA.raw) (j + 1)) s.raw = if 0 ≤ cmpC q.to.c s.fr.c then 8 else 0) := Lib.hid (by rw [HG.out, hqf]; simp)
                clear HG
                generalize cmpC q.to.c s.fr.c = z at *
                obtain ⟨f0, f1, f2, f3, f4, f5⟩ := id h6
                rw [hqf] at f5
                go_wp2_with fail
                go_region_held3 (SC w1 B s b (o + j * 11) q) (first | exact SC.start hX h6 | exact SC.ext (by with_reducible assumption) (by with_reducible assumption) hX | assumption) (first | (go_at_call 26; refine (HQ.out _ (by first | exact hwW.drew | exact ext_trans hwW (by assumption))).mono ?_; rintro e w3 ⟨rfl, hb3⟩))
                have hb4 := ext_trans hwW.drew hb3
                clear hwj hpos f0 f1 f2 f3 f4 f5 h6 hb3 hX HQ
                by_cases hz : 0 ≤ z
                · have HN := Lib.hid (chk_bad HE.out (HG2.out.trans (if_pos hz)) (by decide))
                  clear HE HG2
                  go_wp2
                  go_ret
                  exact ⟨ret_int HN.out.symm, hb4⟩
                · have HN : Hid (chkR (l.map SA.raw) = chkFrom (prv (l.map SA.raw) (j + 1 + 1)) ((l.map SA.raw).drop (j + 1 + 1))) := Lib.hid (by
                    have h1 := chk_good HE.out (HG2.out.trans (if_neg hz))
                    rw [show prv (l.map SA.raw) (j + 1 + 1) = some s.raw by show (l.map SA.raw)[j + 1]? = _; rw [List.getElem?_map, HS.out]; rfl]
                    exact h1)
                  clear HE HG2
                  go_wp2
                  go_roundw
                  case rel => exact ⟨j + 1 + 1, by omega, by go_num, HN, hb4⟩
                  case measure => simp [intOf]; omega

          · have hz' : isZ s.to.c = false := by simpa using hz
            have HN := Lib.hid (chk_bad HE.out (HD2.out.trans (if_pos ⟨he, hz'⟩)) (by decide))
            rw [hz'] at HZ
            clear HD2 HE hz hz' he
            go_wp2_with (first | (refine wpList_load_agg rfl _ _ rfl B 0 (by rfl) (vaL s.fr) (rh_frv hR) _ Tryz.underlying29 rfl (va_info s.fr) ?_) | (refine wpList_load_agg rfl _ _ rfl B 5 (by rfl) (vaL s.to) (rh_tov hR) _ Tryz.underlying29 rfl (va_info s.to) ?_) | (refine wpList_load_agg rfl _ _ rfl B 0 (by rfl) (caL s.fr) (rh_fr hR) _ Tryz.underlying31 rfl (ca_info s.fr) ?_) | (refine wpList_load_agg rfl _ _ rfl B 5 (by rfl) (caL s.to) (rh_to hR) _ Tryz.underlying31 rfl (ca_info s.to) ?_))
            refine (HZ.out _ hwW).mono ?_
            rintro e w2 ⟨rfl, hb2⟩
            replace hwW := ext_trans hwW hb2
            clear hb2 hen hR 
            go_wp2
            go_ret
            exact ⟨ret_int HN.out.symm, hwW⟩
        · have he' : s.en = false := by simpa using he
          rw [he'] at hen
          have HD3 := Lib.hid (HD2.out.trans (if_neg (by rw [he']; simp)))
          clear HD2
          by_cases hv : chkVer s.to.c.v = 0
          · have HD4 := Lib.hid (HD3.out.trans (if_neg (by rw [hv]; simp)))
            rw [hv] at HT
            clear HD3 hv
            go_wp2_with (first | (refine wpList_load_agg rfl _ _ rfl B 0 (by rfl) (vaL s.fr) (rh_frv hR) _ Tryz.underlying29 rfl (va_info s.fr) ?_) | (refine wpList_load_agg rfl _ _ rfl B 5 (by rfl) (vaL s.to) (rh_tov hR) _ Tryz.underlying29 rfl (va_info s.to) ?_) | (refine wpList_load_agg rfl _ _ rfl B 0 (by rfl) (caL s.fr) (rh_fr hR) _ Tryz.underlying31 rfl (ca_info s.fr) ?_) | (refine wpList_load_agg rfl _ _ rfl B 5 (by rfl) (caL s.to) (rh_to hR) _ Tryz.underlying31 rfl (ca_info s.to) ?_))
            refine (HT.out _ hwW).mono ?_
            rintro e w2 ⟨rfl, hb2⟩
            replace hR := hR.ext hb2
            replace hwW := ext_trans hwW hb2
            clear hb2 hen
            obtain ⟨z, hz⟩ : ∃ z, cmpC s.fr.c s.to.c = z := ⟨_, rfl⟩
            by_cases hc : 0 ≤ z
            · have HN := Lib.hid (chk_bad HE.out (HD4.out.trans (if_pos ⟨he', by rw [hz]; exact hc⟩)) (by decide))
              rw [hz] at HC
              clear HD4 HE HT hz he'
              go_wp2_with (first | (refine wpList_load_agg rfl _ _ rfl B 0 (by rfl) (vaL s.fr) (rh_frv hR) _ Tryz.underlying29 rfl (va_info s.fr) ?_) | (refine wpList_load_agg rfl _ _ rfl B 5 (by rfl) (vaL s.to) (rh_tov hR) _ Tryz.underlying29 rfl (va_info s.to) ?_) | (refine wpList_load_agg rfl _ _ rfl B 0 (by rfl) (caL s.fr) (rh_fr hR) _ Tryz.underlying31 rfl (ca_info s.fr) ?_) | (refine wpList_load_agg rfl _ _ rfl B 5 (by rfl) (caL s.to) (rh_to hR) _ Tryz.underlying31 rfl (ca_info s.to) ?_))
              refine (HC.out _ hwW).mono ?_
              rintro e w3 ⟨rfl, hb3⟩
              replace hwW := ext_trans hwW hb3
              clear hb3 hR
              go_wp2
              go_ret
              exact ⟨ret_int HN.out.symm, hwW⟩
            · have HD5 := Lib.hid (HD4.out.trans (if_neg (fun h9 => hc (by rw [← hz]; exact h9.2))))
              have hz9 := hz
              rw [hz] at HC
              clear HD4 hz he he'
              go_wp2_with (first | (refine wpList_load_agg rfl _ _ rfl B 0 (by rfl) (vaL s.fr) (rh_frv hR) _ Tryz.underlying29 rfl (va_info s.fr) ?_) | (refine wpList_load_agg rfl _ _ rfl B 5 (by rfl) (vaL s.to) (rh_tov hR) _ Tryz.underlying29 rfl (va_info s.to) ?_) | (refine wpList_load_agg rfl _ _ rfl B 0 (by rfl) (caL s.fr) (rh_fr hR) _ Tryz.underlying31 rfl (ca_info s.fr) ?_) | (refine wpList_load_agg rfl _ _ rfl B 5 (by rfl) (caL s.to) (rh_to hR) _ Tryz.underlying31 rfl (ca_info s.to) ?_))
              refine (HC.out _ hwW).mono ?_
              rintro e w3 ⟨rfl, hb3⟩
              replace hR := hR.ext hb3
              replace hwW := ext_trans hwW hb3
              clear hb3 hz9
              generalize hW1 : w3 = w1 at *
              clear hW1
              -- what stands ahead of it
              clear HC HT HZ
              by_cases h0 : k = 0
              · subst h0
                have HN : Hid (chkR (l.map SA.raw) = chkFrom (prv (l.map SA.raw) (0 + 1)) ((l.map SA.raw).drop (0 + 1))) := Lib.hid (by
                  have h1 := chk_good HE.out HD5.out
                  rw [show prv (l.map SA.raw) (0 + 1) = some s.raw by show (l.map SA.raw)[0]? = _; rw [List.getElem?_map, HS.out]; rfl]
                  exact h1)
                clear HE HD5
                go_wp2_with fail
                go_quiet (fail)
                go_wp2
                exact ⟨⟨0 + 1, by omega, rfl, HN, below_drewN hwW _⟩, by simp [intOf]; omega⟩
              · obtain ⟨j, rfl⟩ : ∃ j, k = j + 1 := ⟨k - 1, by omega⟩
                obtain ⟨q, hq⟩ : ∃ q, l[j]? = some q := ⟨_, List.getElem?_eq_getElem (show j < l.length by omega)⟩
                obtain ⟨_, b', o', hb', _, hcq⟩ := (H.out.ext hwW).at hq
                cases hb'
                have h6 := c6_of hcq
                have HQ : Hid (∀ W, Below w.heap.size w W → Calls Tryz.prog 26 #[.agg (caL q.to).toArray, .agg (caL s.fr).toArray] W fun e w' => e = .returned (.int .i64 (cmpC q.to.c s.fr.c)) ∧ Below W.heap.size W w') := Lib.hid (fun W hW => (compareCuts_g _ _ W ((H.out.ext hW).at hq).1.to ((H.out.ext hW).at HS.out).1.fr).mono (fun e w' he => ⟨he.1, he.2.1⟩))
                have HG : Hid (chkT (prv (l.map SA.raw) (j + 1)) s.raw = if q.en = true ∨ 0 ≤ cmpC q.to.c s.fr.c then 8 else 0) := Lib.hid (by
                  rw [HD5.out, show prv (l.map SA.raw) (j + 1) = some q.raw by show (l.map SA.raw)[j]? = _; rw [List.getElem?_map, hq]; rfl]
                  rfl)
                have hX : Box w1 B (saA s) := hR.box
                obtain ⟨f0, f1, f2, f3, f4, f5⟩ := id h6
                clear hcq hq HD5 h0 hR
                have hj0 : (0 : Int) ≤ (j : Int) := Int.natCast_nonneg _
                have hj1 : (j : Int) < (l.length : Int) := by omega
                have hpos : decide ((0 : Int) < (j : Int) + 1) = true := decide_eq_true (by omega)
                have hwj : IntKind.i64.wrap (j : Int) = (j : Int) := IntWalk.i64_in _ (by omega)
                by_cases hqe : q.en = true
                · have HN := Lib.hid (chk_bad HE.out (HG.out.trans (if_pos (.inl hqe))) (by decide))
                  rw [hqe] at f5
                  clear HE HG HQ h6 hX f0 f1 f2 f3 f4
                  go_wp2_with fail
                  go_quiet (fail)
                  go_wp2
                  go_ret
                  exact ⟨ret_int HN.out.symm, below_drewN hwW _⟩
                · have hqf : q.en = false := by simpa using hqe
                  clear hqe f0 f1 f2 f3 f4 f5
                  have HG2 : Hid (chkT (prv (l.map SA.raw) (j + 1)) s.raw = if 0 ≤ cmpC q.to.c s.fr.c then 8 else 0) := Lib.hid (by rw [HG.out, hqf]; simp)
                  clear HG
                  generalize cmpC q.to.c s.fr.c = z at *
                  obtain ⟨f0, f1, f2, f3, f4, f5⟩ := id h6
                  rw [hqf] at f5
                  go_wp2_with fail
                  go_region_held3 (SC w1 B s b (o + j * 11) q) (first | exact SC.start hX h6 | exact SC.ext (by with_reducible assumption) (by with_reducible assumption) hX | assumption) (first | (go_at_call 26; refine (HQ.out _ (by first | exact hwW.drew | exact ext_trans hwW (by assumption))).mono ?_; rintro e w3 ⟨rfl, hb3⟩))
                  have hb4 := ext_trans hwW.drew hb3
                  clear hwj hpos f0 f1 f2 f3 f4 f5 h6 hb3 hX HQ
                  by_cases hz : 0 ≤ z
                  · have HN := Lib.hid (chk_bad HE.out (HG2.out.trans (if_pos hz)) (by decide))
                    clear HE HG2
                    go_wp2
                    go_ret
                    exact ⟨ret_int HN.out.symm, hb4⟩
                  · have HN : Hid (chkR (l.map SA.raw) = chkFrom (prv (l.map SA.raw) (j + 1 + 1)) ((l.map SA.raw).drop (j + 1 + 1))) := Lib.hid (by
                      have h1 := chk_good HE.out (HG2.out.trans (if_neg hz))
                      rw [show prv (l.map SA.raw) (j + 1 + 1) = some s.raw by show (l.map SA.raw)[j + 1]? = _; rw [List.getElem?_map, HS.out]; rfl]
                      exact h1)
                    clear HE HG2
                    go_wp2
                    go_roundw
                    case rel => exact ⟨j + 1 + 1, by omega, by go_num, HN, hb4⟩
                    case measure => simp [intOf]; omega

          · have HN := Lib.hid (chk_bad HE.out (HD3.out.trans (if_pos ⟨he', hv⟩)) hv)
            have hne : (chkVer s.to.c.v != 0) = true := by simpa using hv
            clear HD3 HE HC hv he'
            generalize chkVer s.to.c.v = f at *
            go_wp2_with (first | (refine wpList_load_agg rfl _ _ rfl B 0 (by rfl) (vaL s.fr) (rh_frv hR) _ Tryz.underlying29 rfl (va_info s.fr) ?_) | (refine wpList_load_agg rfl _ _ rfl B 5 (by rfl) (vaL s.to) (rh_tov hR) _ Tryz.underlying29 rfl (va_info s.to) ?_) | (refine wpList_load_agg rfl _ _ rfl B 0 (by rfl) (caL s.fr) (rh_fr hR) _ Tryz.underlying31 rfl (ca_info s.fr) ?_) | (refine wpList_load_agg rfl _ _ rfl B 5 (by rfl) (caL s.to) (rh_to hR) _ Tryz.underlying31 rfl (ca_info s.to) ?_))
            refine (HT.out _ hwW).mono ?_
            rintro e w2 ⟨rfl, hb2⟩
            replace hwW := ext_trans hwW hb2
            clear hb2 hen hR
            go_wp2
            go_ret
            exact ⟨ret_int HN.out.symm, hwW⟩
      · have HN := Lib.hid (chk_bad HE.out (HD.out.trans (if_pos hf)) hf)
        have hne : (chkVer s.fr.c.v != 0) = true := by simpa using hf
        clear hf HD HE HC HT HZ hR
        generalize chkVer s.fr.c.v = f at *
        go_wp2
        go_ret
        exact ⟨ret_int HN.out.symm, hwW⟩
    · have HN : Hid (chkR (l.map SA.raw) = 0) := Lib.hid (by rw [HP.out]; exact chk_end (List.drop_eq_nil_of_le (by rw [List.length_map]; omega)))
      clear HP
      go_wp2
      go_ret
      exact ⟨ret_int HN.out.symm, hw⟩

set_option maxRecDepth 100000 in
set_option maxHeartbeats 16000000 in
theorem refCheckRange_at (l : List SA) (a : Option Addr) (n : Nat) (w : World) (h : RA w a n l) : Calls Tryz.prog 21 #[.slice a l.length n] w fun e w' => e = .returned (.int .i64 (chkR (l.map SA.raw))) ∧ Below w.heap.size w w' := by
  have hl63 := h.sl.len63
  have hm63 : n ≤ maxLen := by obtain ⟨_, _, e, h1, h2, _⟩ := h.sl; cases e; exact h2
  have hln : l.length ≤ n := by obtain ⟨_, _, e, h1, h2, _⟩ := h.sl; cases e; exact h1
  unfold maxLen at hm63
  by_cases hbig : 100 < l.length
  · have HN : Hid (chkR (l.map SA.raw) = 2) := Lib.hid (by unfold chkR; rw [if_pos (by rw [List.length_map]; exact hbig)])
    have hb : (100 : Int) < (l.length : Int) := by omega
    go_enter Tryz.func21, Tryz.ntmps21
    go_wp2
    go_ret
    exact ⟨ret_int HN.out.symm, Below.refl _ _⟩
  have HV : Hid (chkR (l.map SA.raw) = chkFrom none (l.map SA.raw)) := Lib.hid (by unfold chkR; rw [if_neg (by rw [List.length_map]; exact hbig)])
  have hb : ¬ (100 : Int) < (l.length : Int) := by omega
  have H := Lib.hid h
  clear h
  go_enter Tryz.func21, Tryz.ntmps21
  go_wp2
  go_loopw [12] (fun i wr => ∃ k : Nat, k ≤ l.length ∧ i = .int .i64 (k : Int) ∧ Hid (chkR (l.map SA.raw) = chkFrom (prv (l.map SA.raw) k) ((l.map SA.raw).drop k)) ∧ Below w.heap.size w wr) (fun i _ => l.length - (intOf i).toNat)
  case atStart => exact ⟨0, by omega, rfl, HV.out, Below.refl _ _⟩
  case round =>
    obtain ⟨k, hk, rfl, HP, hw⟩ := hrel
    clear HV
    generalize hX : wr = X at *
    clear hX
    by_cases hlt : k < l.length
    · obtain ⟨s, hs⟩ : ∃ s, l[k]? = some s := ⟨_, List.getElem?_eq_getElem hlt⟩
      obtain ⟨hok, b, o, rfl, hb0, hcell⟩ := (H.out.ext hw).at hs
      have HF : Hid (∀ W, Below w.heap.size w W → Calls Tryz.prog 29 #[.agg (vaL s.fr).toArray] W fun e w' => e = .returned (.int .i64 (chkVer s.fr.c.v)) ∧ Below W.heap.size W w') := Lib.hid (fun W hW => Tx.refCheckVersion_at _ _ W ((H.out.ext hW).at hs).1.fr.rep)
      have HT : Hid (∀ W, Below w.heap.size w W → Calls Tryz.prog 29 #[.agg (vaL s.to).toArray] W fun e w' => e = .returned (.int .i64 (chkVer s.to.c.v)) ∧ Below W.heap.size W w') := Lib.hid (fun W hW => Tx.refCheckVersion_at _ _ W ((H.out.ext hW).at hs).1.to.rep)
      have HZ : Hid (∀ W, Below w.heap.size w W → Calls Tryz.prog 30 #[.agg (caL s.to).toArray] W fun e w' => e = .returned (.bool (isZ s.to.c)) ∧ Below W.heap.size W w') := Lib.hid (fun W hW => refZeroCut_at _ W ((H.out.ext hW).at hs).1.to)
      have HC : Hid (∀ W, Below w.heap.size w W → Calls Tryz.prog 31 #[.agg (caL s.to).toArray, .agg (caL s.fr).toArray] W fun e w' => e = .returned (.int .i64 (cmpC s.to.c s.fr.c)) ∧ Below W.heap.size W w') := Lib.hid (fun W hW => (refCompareCuts_at _ _ W ((H.out.ext hW).at hs).1.to ((H.out.ext hW).at hs).1.fr).mono (fun e w' he => ⟨he.1, he.2⟩))
      have HE : Hid (chkR (l.map SA.raw) = if chkT (prv (l.map SA.raw) k) s.raw ≠ 0 then chkT (prv (l.map SA.raw) k) s.raw else chkFrom (some s.raw) ((l.map SA.raw).drop (k + 1))) := Lib.hid (by rw [HP.out, chkFrom_step _ (show (l.map SA.raw)[k]? = some s.raw by rw [List.getElem?_map, hs]; rfl)])
      have HD : Hid (chkT (prv (l.map SA.raw) k) s.raw = if chkVer s.fr.c.v ≠ 0 then chkVer s.fr.c.v else if s.en = true ∧ isZ s.to.c = false then 3 else if s.en = false ∧ chkVer s.to.c.v ≠ 0 then chkVer s.to.c.v else if s.en = false ∧ 0 ≤ cmpC s.fr.c s.to.c then 8 else chkP (prv (l.map SA.raw) k) s.raw) := Lib.hid (chkT_is _ _)
      have HS : Hid (l[k]? = some s) := Lib.hid hs
      clear hs HP
      go_upto_region 6 with (first | (refine wpList_load_agg rfl _ _ rfl b (o + k * 11) (by rfl) (saL s) (fun j v hj => by rw [Nat.add_assoc]; exact hcell j v hj) _ Tryz.underlying33 rfl (sa_info s) ?_) | (refine wpList_store_row rfl _ _ _ rfl X.heap.size (saL s).toArray rfl rfl _ _ (Nt.RH.new _ _ _) (sa_info s) rfl (sa_all s) ?_))
      refine wp_stored fun W hbW hR => ?_
      have hwW := ext_trans hw hbW
      have hXW : X.heap.size < W.heap.size := hR.lt
      go_wp2_with (first | (refine wpList_load_agg rfl _ _ rfl X.heap.size 0 (by rfl) (vaL s.fr) (rh_frv hR) _ Tryz.underlying29 rfl (va_info s.fr) ?_) | (refine wpList_load_agg rfl _ _ rfl X.heap.size 5 (by rfl) (vaL s.to) (rh_tov hR) _ Tryz.underlying29 rfl (va_info s.to) ?_) | (refine wpList_load_agg rfl _ _ rfl X.heap.size 0 (by rfl) (caL s.fr) (rh_fr hR) _ Tryz.underlying31 rfl (ca_info s.fr) ?_) | (refine wpList_load_agg rfl _ _ rfl X.heap.size 5 (by rfl) (caL s.to) (rh_to hR) _ Tryz.underlying31 rfl (ca_info s.to) ?_))
      refine (HF.out _ hwW).mono ?_
      rintro e w1 ⟨rfl, hb1⟩
      replace hR := hR.ext hb1
      replace hwW := ext_trans hwW hb1
      clear HF hbW hXW hb1
      generalize hB : X.heap.size = B at *
      clear hB hcell hb0 hw
      by_cases hf : chkVer s.fr.c.v = 0
      · have HD2 := Lib.hid (HD.out.trans (if_neg (by rw [hf]; decide)))
        rw [hf]
        clear HD hf
        have hen := rh_en hR
        by_cases he : s.en = true
        · rw [he] at hen
          by_cases hz : isZ s.to.c = true
          · have HD5 := Lib.hid (HD2.out.trans ((if_neg (by rw [hz]; simp)).trans ((if_neg (by rw [he]; simp)).trans (if_neg (by rw [he]; simp)))))
            rw [hz] at HZ
            clear HD2 hz
            obtain ⟨g5, g6, g7, g8, g9⟩ := rh_to5 hR
            go_wp2_with (first | (refine wpList_load_agg rfl _ _ rfl B 0 (by rfl) (vaL s.fr) (rh_frv hR) _ Tryz.underlying29 rfl (va_info s.fr) ?_) | (refine wpList_load_agg rfl _ _ rfl B 5 (by rfl) (vaL s.to) (rh_tov hR) _ Tryz.underlying29 rfl (va_info s.to) ?_) | (refine wpList_load_agg rfl _ _ rfl B 0 (by rfl) (caL s.fr) (rh_fr hR) _ Tryz.underlying31 rfl (ca_info s.fr) ?_) | (refine wpList_load_agg rfl _ _ rfl B 5 (by rfl) (caL s.to) (rh_to hR) _ Tryz.underlying31 rfl (ca_info s.to) ?_))
            refine (HZ.out _ hwW).mono ?_
            rintro e w2 ⟨rfl, hb2⟩
            replace hR := hR.ext hb2
            replace hwW := ext_trans hwW hb2
            clear hb2 hen g5 g6 g7 g8 g9
            have hen := rh_en hR
            rw [he] at hen
            clear he
            generalize hW1 : w2 = w1 at *
            clear hW1
            -- what stands ahead of it
            clear HC HT HZ
            by_cases h0 : k = 0
            · subst h0
              have HN : Hid (chkR (l.map SA.raw) = chkFrom (prv (l.map SA.raw) (0 + 1)) ((l.map SA.raw).drop (0 + 1))) := Lib.hid (by
                have h1 := chk_good HE.out HD5.out
                rw [show prv (l.map SA.raw) (0 + 1) = some s.raw by show (l.map SA.raw)[0]? = _; rw [List.getElem?_map, HS.out]; rfl]
                exact h1)
              clear HE HD5
              go_wp2_with fail
              go_quiet (fail)
              go_wp2
              exact ⟨⟨0 + 1, by omega, rfl, HN, below_drewN hwW _⟩, by simp [intOf]; omega⟩
            · obtain ⟨j, rfl⟩ : ∃ j, k = j + 1 := ⟨k - 1, by omega⟩
              obtain ⟨q, hq⟩ : ∃ q, l[j]? = some q := ⟨_, List.getElem?_eq_getElem (show j < l.length by omega)⟩
              obtain ⟨_, b', o', hb', _, hcq⟩ := (H.out.ext hwW).at hq
              cases hb'
              have h6 := c6_of hcq
              have HQ : Hid (∀ W, Below w.heap.size w W → Calls Tryz.prog 31 #[.agg (caL q.to).toArray, .agg (caL s.fr).toArray] W fun e w' => e = .returned (.int .i64 (cmpC q.to.c s.fr.c)) ∧ Below W.heap.size W w') := Lib.hid (fun W hW => (refCompareCuts_at _ _ W ((H.out.ext hW).at hq).1.to ((H.out.ext hW).at HS.out).1.fr).mono (fun e w' he => ⟨he.1, he.2⟩))
              have HG : Hid (chkT (prv (l.map SA.raw) (j + 1)) s.raw = if q.en = true ∨ 0 ≤ cmpC q.to.c s.fr.c then 8 else 0) := Lib.hid (by
                rw [HD5.out, show prv (l.map SA.raw) (j + 1) = some q.raw by show (l.map SA.raw)[j]? = _; rw [List.getElem?_map, hq]; rfl]
                rfl)
              have hX : Box w1 B (saA s) := hR.box
              obtain ⟨f0, f1, f2, f3, f4, f5⟩ := id h6
              clear hcq hq HD5 h0 hR
              have hj0 : (0 : Int) ≤ (j : Int) := Int.natCast_nonneg _
              have hj1 : (j : Int) < (l.length : Int) := by omega
              have hpos : decide ((0 : Int) < (j : Int) + 1) = true := decide_eq_true (by omega)
              have hwj : IntKind.i64.wrap (j : Int) = (j : Int) := IntWalk.i64_in _ (by omega)
              by_cases hqe : q.en = true
              · have HN := Lib.hid (chk_bad HE.out (HG.out.trans (if_pos (.inl hqe))) (by decide))
                rw [hqe] at f5
                clear HE HG HQ h6 hX f0 f1 f2 f3 f4
                go_wp2_with fail
                go_quiet (fail)
                go_wp2
                go_ret
                exact ⟨ret_int HN.out.symm, below_drewN hwW _⟩
              · have hqf : q.en = false := by simpa using hqe
                clear hqe f0 f1 f2 f3 f4 f5
                have HG2 : Hid (chkT (prv (l.map SA.raw) (j + 1)) s.raw = if 0 ≤ cmpC q.to.c s.fr.c then 8 else 0) := Lib.hid (by rw [HG.out, hqf]; simp)
                clear HG
                generalize cmpC q.to.c s.fr.c = z at *
                obtain ⟨f0, f1, f2, f3, f4, f5⟩ := id h6
                rw [hqf] at f5
                go_wp2_with fail
                go_region_held3 (SC w1 B s b (o + j * 11) q) (first | exact SC.start hX h6 | exact SC.ext (by with_reducible assumption) (by with_reducible assumption) hX | assumption) (first | (go_at_call 31; refine (HQ.out _ (by first | exact hwW.drew | exact ext_trans hwW (by assumption))).mono ?_; rintro e w3 ⟨rfl, hb3⟩))
                have hb4 := ext_trans hwW.drew hb3
                clear hwj hpos f0 f1 f2 f3 f4 f5 h6 hb3 hX HQ
                by_cases hz : 0 ≤ z
                · have HN := Lib.hid (chk_bad HE.out (HG2.out.trans (if_pos hz)) (by decide))
                  clear HE HG2
                  go_wp2
                  go_ret
                  exact ⟨ret_int HN.out.symm, hb4⟩
                · have HN : Hid (chkR (l.map SA.raw) = chkFrom (prv (l.map SA.raw) (j + 1 + 1)) ((l.map SA.raw).drop (j + 1 + 1))) := Lib.hid (by
                    have h1 := chk_good HE.out (HG2.out.trans (if_neg hz))
                    rw [show prv (l.map SA.raw) (j + 1 + 1) = some s.raw by show (l.map SA.raw)[j + 1]? = _; rw [List.getElem?_map, HS.out]; rfl]
                    exact h1)
                  clear HE HG2
                  go_wp2
                  go_roundw
                  case rel => exact ⟨j + 1 + 1, by omega, by go_num, HN, hb4⟩
                  case measure => simp [intOf]; omega

          · have hz' : isZ s.to.c = false := by simpa using hz
            have HN := Lib.hid (chk_bad HE.out (HD2.out.trans (if_pos ⟨he, hz'⟩)) (by decide))
            rw [hz'] at HZ
            clear HD2 HE hz hz' he
            obtain ⟨g5, g6, g7, g8, g9⟩ := rh_to5 hR
            go_wp2_with (first | (refine wpList_load_agg rfl _ _ rfl B 0 (by rfl) (vaL s.fr) (rh_frv hR) _ Tryz.underlying29 rfl (va_info s.fr) ?_) | (refine wpList_load_agg rfl _ _ rfl B 5 (by rfl) (vaL s.to) (rh_tov hR) _ Tryz.underlying29 rfl (va_info s.to) ?_) | (refine wpList_load_agg rfl _ _ rfl B 0 (by rfl) (caL s.fr) (rh_fr hR) _ Tryz.underlying31 rfl (ca_info s.fr) ?_) | (refine wpList_load_agg rfl _ _ rfl B 5 (by rfl) (caL s.to) (rh_to hR) _ Tryz.underlying31 rfl (ca_info s.to) ?_))
            refine (HZ.out _ hwW).mono ?_
            rintro e w2 ⟨rfl, hb2⟩
            replace hwW := ext_trans hwW hb2
            clear hb2 hen hR g5 g6 g7 g8 g9
            go_wp2
            go_ret
            exact ⟨ret_int HN.out.symm, hwW⟩
        · have he' : s.en = false := by simpa using he
          rw [he'] at hen
          have HD3 := Lib.hid (HD2.out.trans (if_neg (by rw [he']; simp)))
          clear HD2
          by_cases hv : chkVer s.to.c.v = 0
          · have HD4 := Lib.hid (HD3.out.trans (if_neg (by rw [hv]; simp)))
            rw [hv] at HT
            clear HD3 hv
            go_wp2_with (first | (refine wpList_load_agg rfl _ _ rfl B 0 (by rfl) (vaL s.fr) (rh_frv hR) _ Tryz.underlying29 rfl (va_info s.fr) ?_) | (refine wpList_load_agg rfl _ _ rfl B 5 (by rfl) (vaL s.to) (rh_tov hR) _ Tryz.underlying29 rfl (va_info s.to) ?_) | (refine wpList_load_agg rfl _ _ rfl B 0 (by rfl) (caL s.fr) (rh_fr hR) _ Tryz.underlying31 rfl (ca_info s.fr) ?_) | (refine wpList_load_agg rfl _ _ rfl B 5 (by rfl) (caL s.to) (rh_to hR) _ Tryz.underlying31 rfl (ca_info s.to) ?_))
            refine (HT.out _ hwW).mono ?_
            rintro e w2 ⟨rfl, hb2⟩
            replace hR := hR.ext hb2
            replace hwW := ext_trans hwW hb2
            clear hb2 hen
            obtain ⟨z, hz⟩ : ∃ z, cmpC s.to.c s.fr.c = z := ⟨_, rfl⟩
            by_cases hc : z ≤ 0
            · have HN := Lib.hid (chk_bad HE.out (HD4.out.trans (if_pos ⟨he', (cmpC_turn _ _).1 (by rw [hz]; exact hc)⟩)) (by decide))
              rw [hz] at HC
              clear HD4 HE HT hz he'
              go_wp2_with (first | (refine wpList_load_agg rfl _ _ rfl B 0 (by rfl) (vaL s.fr) (rh_frv hR) _ Tryz.underlying29 rfl (va_info s.fr) ?_) | (refine wpList_load_agg rfl _ _ rfl B 5 (by rfl) (vaL s.to) (rh_tov hR) _ Tryz.underlying29 rfl (va_info s.to) ?_) | (refine wpList_load_agg rfl _ _ rfl B 0 (by rfl) (caL s.fr) (rh_fr hR) _ Tryz.underlying31 rfl (ca_info s.fr) ?_) | (refine wpList_load_agg rfl _ _ rfl B 5 (by rfl) (caL s.to) (rh_to hR) _ Tryz.underlying31 rfl (ca_info s.to) ?_))
              refine (HC.out _ hwW).mono ?_
              rintro e w3 ⟨rfl, hb3⟩
              replace hwW := ext_trans hwW hb3
              clear hb3 hR
              go_wp2
              go_ret
              exact ⟨ret_int HN.out.symm, hwW⟩
            · have HD5 := Lib.hid (HD4.out.trans (if_neg (fun h9 => hc (by rw [← hz]; exact (cmpC_turn _ _).2 h9.2))))
              have hz9 := hz
              rw [hz] at HC
              clear HD4 hz he he'
              go_wp2_with (first | (refine wpList_load_agg rfl _ _ rfl B 0 (by rfl) (vaL s.fr) (rh_frv hR) _ Tryz.underlying29 rfl (va_info s.fr) ?_) | (refine wpList_load_agg rfl _ _ rfl B 5 (by rfl) (vaL s.to) (rh_tov hR) _ Tryz.underlying29 rfl (va_info s.to) ?_) | (refine wpList_load_agg rfl _ _ rfl B 0 (by rfl) (caL s.fr) (rh_fr hR) _ Tryz.underlying31 rfl (ca_info s.fr) ?_) | (refine wpList_load_agg rfl _ _ rfl B 5 (by rfl) (caL s.to) (rh_to hR) _ Tryz.underlying31 rfl (ca_info s.to) ?_))
              refine (HC.out _ hwW).mono ?_
              rintro e w3 ⟨rfl, hb3⟩
              replace hR := hR.ext hb3
              replace hwW := ext_trans hwW hb3
              clear hb3 hz9
              generalize hW1 : w3 = w1 at *
              clear hW1
              -- what stands ahead of it
              clear HC HT HZ
              by_cases h0 : k = 0
              · subst h0
                have HN : Hid (chkR (l.map SA.raw) = chkFrom (prv (l.map SA.raw) (0 + 1)) ((l.map SA.raw).drop (0 + 1))) := Lib.hid (by
                  have h1 := chk_good HE.out HD5.out
                  rw [show prv (l.map SA.raw) (0 + 1) = some s.raw by show (l.map SA.raw)[0]? = _; rw [List.getElem?_map, HS.out]; rfl]
                  exact h1)
                clear HE HD5
                go_wp2_with fail
                go_quiet (fail)
                go_wp2
                exact ⟨⟨0 + 1, by omega, rfl, HN, below_drewN hwW _⟩, by simp [intOf]; omega⟩
              · obtain ⟨j, rfl⟩ : ∃ j, k = j + 1 := ⟨k - 1, by omega⟩
                obtain ⟨q, hq⟩ : ∃ q, l[j]? = some q := ⟨_, List.getElem?_eq_getElem (show j < l.length by omega)⟩
                obtain ⟨_, b', o', hb', _, hcq⟩ := (H.out.ext hwW).at hq
                cases hb'
                have h6 := c6_of hcq
                have HQ : Hid (∀ W, Below w.heap.size w W → Calls Tryz.prog 31 #[.agg (caL q.to).toArray, .agg (caL s.fr).toArray] W fun e w' => e = .returned (.int .i64 (cmpC q.to.c s.fr.c)) ∧ Below W.heap.size W w') := Lib.hid (fun W hW => (refCompareCuts_at _ _ W ((H.out.ext hW).at hq).1.to ((H.out.ext hW).at HS.out).1.fr).mono (fun e w' he => ⟨he.1, he.2⟩))
                have HG : Hid (chkT (prv (l.map SA.raw) (j + 1)) s.raw = if q.en = true ∨ 0 ≤ cmpC q.to.c s.fr.c then 8 else 0) := Lib.hid (by
                  rw [HD5.out, show prv (l.map SA.raw) (j + 1) = some q.raw by show (l.map SA.raw)[j]? = _; rw [List.getElem?_map, hq]; rfl]
                  rfl)
                have hX : Box w1 B (saA s) := hR.box
                obtain ⟨f0, f1, f2, f3, f4, f5⟩ := id h6
                clear hcq hq HD5 h0 hR
                have hj0 : (0 : Int) ≤ (j : Int) := Int.natCast_nonneg _
                have hj1 : (j : Int) < (l.length : Int) := by omega
                have hpos : decide ((0 : Int) < (j : Int) + 1) = true := decide_eq_true (by omega)
                have hwj : IntKind.i64.wrap (j : Int) = (j : Int) := IntWalk.i64_in _ (by omega)
                by_cases hqe : q.en = true
                · have HN := Lib.hid (chk_bad HE.out (HG.out.trans (if_pos (.inl hqe))) (by decide))
                  rw [hqe] at f5
                  clear HE HG HQ h6 hX f0 f1 f2 f3 f4
                  go_wp2_with fail
                  go_quiet (fail)
                  go_wp2
                  go_ret
                  exact ⟨ret_int HN.out.symm, below_drewN hwW _⟩
                · have hqf : q.en = false := by simpa using hqe
                  clear hqe f0 f1 f2 f3 f4 f5
                  have HG2 : Hid (chkT (prv (l.map SA.raw) (j + 1)) s.raw = if 0 ≤ cmpC q.to.c s.fr.c then 8 else 0) := Lib.hid (by rw [HG.out, hqf]; simp)
                  clear HG
                  generalize cmpC q.to.c s.fr.c = z at *
                  obtain ⟨f0, f1, f2, f3, f4, f5⟩ := id h6
                  rw [hqf] at f5
                  go_wp2_with fail
                  go_region_held3 (SC w1 B s b (o + j * 11) q) (first | exact SC.start hX h6 | exact SC.ext (by with_reducible assumption) (by with_reducible assumption) hX | assumption) (first | (go_at_call 31; refine (HQ.out _ (by first | exact hwW.drew | exact ext_trans hwW (by assumption))).mono ?_; rintro e w3 ⟨rfl, hb3⟩))
                  have hb4 := ext_trans hwW.drew hb3
                  clear hwj hpos f0 f1 f2 f3 f4 f5 h6 hb3 hX HQ
                  by_cases hz : 0 ≤ z
                  · have HN := Lib.hid (chk_bad HE.out (HG2.out.trans (if_pos hz)) (by decide))
                    clear HE HG2
                    go_wp2
                    go_ret
                    exact ⟨ret_int HN.out.symm, hb4⟩
                  · have HN : Hid (chkR (l.map SA.raw) = chkFrom (prv (l.map SA.raw) (j + 1 + 1)) ((l.map SA.raw).drop (j + 1 + 1))) := Lib.hid (by
                      have h1 := chk_good HE.out (HG2.out.trans (if_neg hz))
                      rw [show prv (l.map SA.raw) (j + 1 + 1) = some s.raw by show (l.map SA.raw)[j + 1]? = _; rw [List.getElem?_map, HS.out]; rfl]
                      exact h1)
                    clear HE HG2
                    go_wp2
                    go_roundw
                    case rel => exact ⟨j + 1 + 1, by omega, by go_num, HN, hb4⟩
                    case measure => simp [intOf]; omega

          · have HN := Lib.hid (chk_bad HE.out (HD3.out.trans (if_pos ⟨he', hv⟩)) hv)
            have hne : (chkVer s.to.c.v != 0) = true := by simpa using hv
            clear HD3 HE HC hv he'
            generalize chkVer s.to.c.v = f at *
            go_wp2_with (first | (refine wpList_load_agg rfl _ _ rfl B 0 (by rfl) (vaL s.fr) (rh_frv hR) _ Tryz.underlying29 rfl (va_info s.fr) ?_) | (refine wpList_load_agg rfl _ _ rfl B 5 (by rfl) (vaL s.to) (rh_tov hR) _ Tryz.underlying29 rfl (va_info s.to) ?_) | (refine wpList_load_agg rfl _ _ rfl B 0 (by rfl) (caL s.fr) (rh_fr hR) _ Tryz.underlying31 rfl (ca_info s.fr) ?_) | (refine wpList_load_agg rfl _ _ rfl B 5 (by rfl) (caL s.to) (rh_to hR) _ Tryz.underlying31 rfl (ca_info s.to) ?_))
            refine (HT.out _ hwW).mono ?_
            rintro e w2 ⟨rfl, hb2⟩
            replace hwW := ext_trans hwW hb2
            clear hb2 hen hR
            go_wp2
            go_ret
            exact ⟨ret_int HN.out.symm, hwW⟩
      · have HN := Lib.hid (chk_bad HE.out (HD.out.trans (if_pos hf)) hf)
        have hne : (chkVer s.fr.c.v != 0) = true := by simpa using hf
        clear hf HD HE HC HT HZ hR
        generalize chkVer s.fr.c.v = f at *
        go_wp2
        go_ret
        exact ⟨ret_int HN.out.symm, hwW⟩
    · have HN : Hid (chkR (l.map SA.raw) = 0) := Lib.hid (by rw [HP.out]; exact chk_end (List.drop_eq_nil_of_le (by rw [List.length_map]; omega)))
      clear HP
      go_wp2
      go_ret
      exact ⟨ret_int HN.out.symm, hw⟩

end Rg
end Go.Proofs.YtiogfdkdhfmamaaGreatDoor
