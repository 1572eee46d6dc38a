/- Visits, Tallies of the reference. Printed by gen_rvis.py. -/
import Derived.Test.YtacchooggifnhaaTv16
import Derived.Test.YtacchooggifnhaaTv02
import Derived.Test.YtacchooggifnhaaTv14
import Derived.Test.YtacchooggifnhaaTv03
import Derived.Test.YtacchooggifnhaaTv00
import Derived.Test.YtacchooggifnhaaShelf
import Derived.Test.YtacchooggifnhaaProg
import Derived.Test.YtacchooggifnhaaTv04
import Derived.Test.YtacchooggifnhaaTv05
import Derived.Test.YtacchooggifnhaaTv06
import Derived.Test.YtacchooggifnhaaTv07
import Derived.Test.YtacchooggifnhaaTv08
import Derived.Test.YtacchooggifnhaaTv09
namespace Go.Proofs.Ytacchooggifnhaa
open Go.RowKit
namespace Ex
theorem tl_one (p : Int × Value) (hp : p.2.oneCell' = true) : ∀ u ∈ tlL p, u.oneCell' = true := by
  intro u hu
  simp only [tlL, List.mem_cons, List.not_mem_nil, or_false] at hu
  rcases hu with rfl | rfl
  · rfl
  · exact hp
theorem Rows.kept {w w' : World} {B ar : Nat} {bs : List Nat} {R : List (List Int)} (h : Rows w B ar bs R) {base e size n : Nat} {v : Value} {xs : List Value} (hT : w.ownsRow base e size v n xs) (hne : 3 ≠ e) (hg : w.grownBy w' v.ownBlock) : Rows w' B ar bs R :=
  fun j b r h1 h2 => (h j b r h1 h2).kept hg (own_ne_own (h j b r h1 h2) hT hne)
theorem own_shape {w : World} {base e size n : Nat} {v : Value} {xs : List Value} (h : w.ownsRow base e size v n xs) : ∃ a c, v = .slice a n c := by
  rcases h.2 with ⟨rfl, h9⟩ | ⟨g, cap, cur, rfl, _⟩
  · exact ⟨none, 0, by rw [h9]⟩
  · exact ⟨_, _, rfl⟩
/-- the days from the first to the last one -/
theorem days_of {K : List Sbj} {day z1 z2 : Int} (h : MmOk K day (z1, z2)) (hb : ¬ 20000 ≤ z2 - z1) : ∃ lo n : Nat, z1 = (lo : Int) ∧ n ≤ 20000 ∧ (∀ k : Nat, k ≤ n → (z1 + (k : Int) ≤ z2 ↔ k < n)) ∧ (∀ s ∈ K, (lo : Int) ≤ s.time / day ∧ s.time / day < (lo : Int) + (n : Int)) ∧ ∀ ar, TalR K day ar 0 (talX K day lo n ar) := by
  rcases h with ⟨h1, h2⟩ | ⟨h1, lo, hi, h2, h3⟩
  · obtain ⟨e1, e2⟩ := Prod.mk.inj h2
    subst h1
    refine ⟨4000000000, 0, by omega, by omega, fun k hk => by omega, (fun s hs => by cases hs), fun ar => .inl ⟨rfl, rfl, rfl⟩⟩
  · obtain ⟨e1, e2⟩ := Prod.mk.inj h2
    have hle := h3.le
    refine ⟨lo, hi - lo + 1, e1, by omega, fun k hk => by omega, fun s hs => by have := h3.2.2 s hs; omega, fun ar => .inr ⟨h1, lo, hi, h3, .inr ⟨by omega, rfl, rfl⟩⟩⟩
theorem large_of {K : List Sbj} {day z1 z2 : Int} (h : MmOk K day (z1, z2)) (hb : 20000 ≤ z2 - z1) : ∀ ar, TalR K day ar 2 [] := by
  intro ar
  rcases h with ⟨h1, h2⟩ | ⟨h1, lo, hi, h2, h3⟩
  · obtain ⟨e1, e2⟩ := Prod.mk.inj h2
    omega
  · obtain ⟨e1, e2⟩ := Prod.mk.inj h2
    have hle := h3.le
    exact .inr ⟨h1, lo, hi, h3, .inl ⟨by omega, rfl, rfl⟩⟩
set_option maxRecDepth 100000 in
set_option maxHeartbeats 16000000 in
theorem refVisits_at (l : List Ev) (hok : ∀ e ∈ l, e.ok) (key : ByteArray) (hx : key.size ≤ maxLen) (gap : Int) (a : Option Addr) (c : Nat) (w : World) (hs : Sl w (.slice a l.length c) l.length (l.flatMap evL)) :
    Calls Try.prog 9 #[.slice a l.length c, .string key, .int .i64 gap] w fun e w' => ∃ (b : Option Addr) (d : Nat), e = .returned (.tuple #[.slice b (visV l key gap).length d, .int .i64 (visF l key gap)]) ∧ Sl w' (.slice b (visV l key gap).length d) (visV l key gap).length ((visV l key gap).flatMap viL) ∧ Below w.heap.size w w' := by
  have hl := hs.len_le
  have HOK := Lib.hid hok
  have HS := Lib.hid hs
  have HX := Lib.hid hx
  clear hok hs hx
  go_enter Try.func9, Try.ntmps9
  go_wp2_with fail
  refine (ref7_CheckLog l HOK.out a c w HS.out).mono ?_
  rintro e w1 ⟨rfl, hb1⟩
  obtain ⟨f, hf⟩ : ∃ z, checkL l = z := ⟨_, rfl⟩
  have HF : Hid (visF l key gap = if f ≠ 0 then f else if keyB key.data.toList = false then 3 else if withinB gap 0 100000000 = false then 1 else 0) := Lib.hid (by rw [← hf]; rfl)
  have HFC := Lib.hid hf
  rw [hf]
  clear hf
  by_cases h0 : f = 0
  · subst h0
    obtain ⟨kb, hkb⟩ : ∃ z, keyB key.data.toList = z := ⟨_, rfl⟩
    rw [hkb] at HF
    have HXK := Lib.hid (fun W9 => (by have h9 := ref_IsKey key HX.out W9; rw [hkb] at h9; exact h9 : Calls Try.prog 34 #[.string key] W9 fun e w' => e = .returned (.bool kb) ∧ W9 = w'))
    clear hkb
    go_wp2_with fail
    refine (HXK.out w1).mono ?_
    rintro e w2 ⟨rfl, hw⟩
    subst hw
    cases kb
    · have HN : Hid (visF l key gap = 3) := Lib.hid (HF.out.trans rfl)
      have H0 : Hid ((3 : Int) ≠ 0) := Lib.hid (by decide)
      have HV0 : Hid (visV l key gap = []) := Lib.hid (by unfold visV; rw [if_neg (by rw [HN.out]; first | exact H0.out | decide)])
      go_wp2
      exact bodyPost_ret (v := .tuple #[.slice none 0 0, .int .i64 3]) (by simp [results, Try.results9, go_sem]) rfl ⟨none, 0, by rw [HN.out, HV0.out]; rfl, by rw [HV0.out]; exact Sl.nil _, hb1⟩
    · have HF1 : Hid (visF l key gap = if withinB gap 0 100000000 = false then 1 else 0) := Lib.hid (HF.out.trans rfl)
      clear HF
      by_cases hg1 : gap < 0
      · have HN : Hid (visF l key gap = 1) := Lib.hid (HF1.out.trans (if_pos (by unfold withinB; exact decide_eq_false (by omega))))
        have H0 : Hid ((1 : Int) ≠ 0) := Lib.hid (by decide)
        have HV0 : Hid (visV l key gap = []) := Lib.hid (by unfold visV; rw [if_neg (by rw [HN.out]; first | exact H0.out | decide)])
        clear HF1
        go_wp2
        exact bodyPost_ret (v := .tuple #[.slice none 0 0, .int .i64 1]) (by simp [results, Try.results9, go_sem]) rfl ⟨none, 0, by rw [HN.out, HV0.out]; rfl, by rw [HV0.out]; exact Sl.nil _, hb1⟩
      · have hg1b : decide (gap < 0) = false := decide_eq_false hg1
        by_cases hg2 : 100000000 < gap
        · have HN : Hid (visF l key gap = 1) := Lib.hid (HF1.out.trans (if_pos (by unfold withinB; exact decide_eq_false (by omega))))
          have H0 : Hid ((1 : Int) ≠ 0) := Lib.hid (by decide)
          have HV0 : Hid (visV l key gap = []) := Lib.hid (by unfold visV; rw [if_neg (by rw [HN.out]; first | exact H0.out | decide)])
          clear HF1 hg1
          go_wp2
          exact bodyPost_ret (v := .tuple #[.slice none 0 0, .int .i64 1]) (by simp [results, Try.results9, go_sem]) rfl ⟨none, 0, by rw [HN.out, HV0.out]; rfl, by rw [HV0.out]; exact Sl.nil _, hb1⟩
        · have hg2b : decide (100000000 < gap) = false := decide_eq_false hg2
          have HN : Hid (visF l key gap = 0) := Lib.hid (HF1.out.trans (if_neg (by unfold withinB; rw [decide_eq_true (show 0 ≤ gap ∧ gap ≤ 100000000 by omega)]; decide)))
          have hgp : 0 ≤ gap ∧ gap ≤ 100000000 := by omega
          have hl20 := checkL_len HFC.out
          clear HF1 HXK hg1 hg2
          go_wp2
          go_loopw [9, 32] (fun v9 i wr => ∃ k n : Nat, k ≤ l.length ∧ n ≤ k ∧ i = .int .i64 k ∧ Hid ((timesX key (l.take k)).length = n) ∧ wr.ownsRow w.heap.size 3 1 v9 n ((timesX key (l.take k)).map (Value.int .i64)) ∧ Below w.heap.size w wr) (fun _ i _ => l.length - (intOf i).toNat)
          case atStart => exact ⟨0, 0, by omega, by omega, rfl, rfl, World.ownsRow_nil _ _ _ _, hb1⟩
          case round =>
            clear hb1
            obtain ⟨k, n, hk, hnk, rfl, HTN, hown, hbr⟩ := hrel
            by_cases hlt : k < l.length
            · have hgk := List.getElem?_eq_getElem hlt
              generalize l[k] = s at hgk
              have HTT := Lib.hid (times_take (key := key) hgk)
              obtain ⟨b, o, rfl, e0, e1, e2, e3, e4, e5, e6, e7⟩ := ev_cells (HS.out.ext hbr) hgk
              have hk0 : (0 : Int) ≤ (k : Int) := Int.natCast_nonneg _
              have hk1 : (k : Int) < (l.length : Int) := by omega
              clear hgk
              go_upto_region 12 with (fail)
              clear e0 e1 e2 e3 e4 e5 e6 e7
              refine wp_box1 fun X hszX hbX hX => ?_
              obtain ⟨g0, g1, g2, g3, g4, g5, g6, g7⟩ := box_ev hX
              have hownX := ownsRow_ext hown hbX
              have hbw := hbr.trans (hbX.mono hbr.size)
              clear hX hszX hown hbX hbr
              by_cases hkd : s.kind = 3
              · have hkb : (s.kind != 3) = false := by simpa using hkd
                have HT2 : Hid (timesX key (l.take (k + 1)) = timesX key (l.take k)) := Lib.hid (by rw [HTT.out]; unfold ofKey; simp [hkd])
                clear hkd
                have hown8 : X.ownsRow w.heap.size 3 1 u9 n ((timesX key (l.take (k + 1))).map (Value.int .i64)) := by rw [HT2.out]; exact hownX
                have HTN2 : Hid ((timesX key (l.take (k + 1))).length = n) := Lib.hid (by rw [HT2.out]; exact HTN.out)
                clear hownX
                go_wp2
                go_roundw
                case rel => exact ⟨k + 1, n, by omega, by omega, by go_num, HTN2, hown8, hbw⟩
                case measure => simp [intOf]; omega
              · have hkb : (s.kind != 3) = true := by simpa using hkd
                by_cases hky : s.key = key
                · have hnb : (s.key.toList == key.toList) = true := by rw [hky]; simp
                  have hnb2 : s.key.toList = key.toList := by rw [hky]
                  have HT2 : Hid (timesX key (l.take (k + 1)) = timesX key (l.take k) ++ [s.time]) := Lib.hid (by rw [HTT.out]; unfold ofKey; simp [hkd, hky])
                  have hone : ∀ u ∈ ([Value.int .i64 s.time] : List Value), u.oneCell' = true := by intro u hu; simp at hu; subst hu; rfl
                  clear hkd hky
                  go_wp2_with (at_builtin; refine wpList_append_sl rfl _ _ 33 rfl w.heap.size 3 Try.underlying33 intE_info rfl (by decide) rfl (ownsRow_ext hownX (ext_alloc _ _)) rfl (Sl.new X #[.int .i64 s.time] _ 1 1 (by omega) (by decide)) rfl hone (by unfold maxLen; omega) (by omega) (by have := hbw.size; simp; omega) ?_; intro v7 w7 hown7 hg7 _)
                  have hoA := ownsRow_ext hownX (ext_alloc X (.cells #[.int .i64 s.time] 3))
                  have hb8 : Below w.heap.size w w7 := (hbw.trans ((ext_alloc X (.cells #[.int .i64 s.time] 3)).mono hbw.size)).grown hg7 (by have := hbw.size; simp; omega) (fun q hq => (hoA.lt q hq).1)
                  have hown8 : w7.ownsRow w.heap.size 3 1 v7 (n + 1) ((timesX key (l.take (k + 1))).map (Value.int .i64)) := by rw [HT2.out, List.map_append]; exact hown7
                  have HTN2 : Hid ((timesX key (l.take (k + 1))).length = n + 1) := Lib.hid (by rw [HT2.out, List.length_append, HTN.out]; rfl)
                  clear hown7 hg7 hoA hownX hbw g0 g1 g2 g3 g4 g5 g6 g7
                  go_wp2
                  go_roundw
                  case rel => exact ⟨k + 1, n + 1, by omega, by omega, by go_num, HTN2, hown8, hb8⟩
                  case measure => simp [intOf]; omega
                · have hnb : (s.key.toList == key.toList) = false := by rw [beq_eq_false_iff_ne, ByteArray.toList_eq, ByteArray.toList_eq]; exact fun h => hky (bytes_ext h)
                  have hnb2 : ¬ (s.key.toList = key.toList) := by rw [ByteArray.toList_eq, ByteArray.toList_eq]; exact fun h => hky (bytes_ext h)
                  have HT2 : Hid (timesX key (l.take (k + 1)) = timesX key (l.take k)) := Lib.hid (by rw [HTT.out]; unfold ofKey; simp [hky])
                  clear hkd hky
                  have hown8 : X.ownsRow w.heap.size 3 1 u9 n ((timesX key (l.take (k + 1))).map (Value.int .i64)) := by rw [HT2.out]; exact hownX
                  have HTN2 : Hid ((timesX key (l.take (k + 1))).length = n) := Lib.hid (by rw [HT2.out]; exact HTN.out)
                  clear hownX
                  go_wp2
                  go_roundw
                  case rel => exact ⟨k + 1, n, by omega, by omega, by go_num, HTN2, hown8, hbw⟩
                  case measure => simp [intOf]; omega
            · have hTl : timesX key (l.take k) = timesX key l := by rw [List.take_of_length_le (by omega)]
              rw [hTl] at hown HTN
              have HTE := times_ok (key := key) HFC.out
              have HVN : Hid (visV l key gap = visX gap (sortZ (timesX key l))) := Lib.hid (by unfold visV; rw [if_pos HN.out])
              obtain ⟨T, hT⟩ : ∃ z, timesX key l = z := ⟨_, rfl⟩
              rw [hT] at hown HTN HTE HVN
              obtain rfl : T.length = n := HTN.out
              obtain ⟨gT, cT, rfl⟩ := own_shape hown
              obtain ⟨hT20, hTb⟩ := HTE
              have HTB := Lib.hid hTb
              clear hTb hT hTl HTN hnk hk
              go_wp2_with fail
              refine (sortInt_at w.heap.size T hT20 _ wr hown).mono ?_
              rintro e w3 ⟨rfl, hoZ, hg3⟩
              have hb3 := hbr.grown hg3 hbr.size (fun q hq => (hown.lt q hq).1)
              have HZS := Lib.hid (sortZ_srt T)
              have HZB : Hid (∀ t ∈ sortZ T, 0 ≤ t ∧ t ≤ 4000000000) := Lib.hid (fun t ht => HTB.out t ((sortZ_perm T).mem_iff.1 ht))
              have hZl := sortZ_len T
              obtain ⟨Z, hZ⟩ : ∃ z, sortZ T = z := ⟨_, rfl⟩
              rw [hZ] at hoZ HZS HZB hZl HVN
              rw [← hZl] at hoZ ⊢
              rw [← hZl] at hT20
              clear hZl hZ hg3 hbr hown HTB
              go_wp2
              go_loopw [12, 55] (fun v12 v54 wq => ∃ k n2 : Nat, k ≤ Z.length ∧ v54 = .int .i64 k ∧ Hid ((visX gap (Z.take k)).length = n2) ∧ n2 ≤ k ∧ wq.ownsRow w.heap.size 40 3 v12 n2 ((visX gap (Z.take k)).flatMap viL) ∧ wq.ownsRow w.heap.size 3 1 (.slice gT Z.length cT) Z.length (Z.map (Value.int .i64)) ∧ Below w.heap.size w wq) (fun _ i _ => Z.length - (intOf i).toNat)
              case atStart => exact ⟨0, 0, by omega, rfl, rfl, by omega, World.ownsRow_nil _ _ _ _, hoZ, hb3⟩
              case round =>
                clear hb3 hoZ
                obtain ⟨k, n2, hk, rfl, HN2, hn2, hoV, hoZ, hbq⟩ := hrel
                by_cases hlt : k < Z.length
                · have hgk := List.getElem?_eq_getElem hlt
                  generalize Z[k] = t at hgk
                  have ht := HZB.out t (List.mem_of_getElem? hgk)
                  obtain ⟨g, cap, hgT, hgw⟩ := own_form hoZ (by omega)
                  obtain rfl : gT = some ⟨g, 0, none⟩ := by injection hgT
                  obtain rfl : cT = cap := by injection hgT
                  clear hgT
                  have c0 := (own_cell hoZ (i := k) (x := .int .i64 t) (by rw [List.getElem?_map, hgk]; rfl)).1
                  have hk0 : (0 : Int) ≤ (k : Int) := Int.natCast_nonneg _
                  have hk1 : (k : Int) < (Z.length : Int) := by omega
                  obtain ⟨gV, cV, rfl⟩ := own_shape hoV
                  cases k with
                  | zero =>
                    have HNW : Hid (visX gap (Z.take (0 + 1)) = [⟨t, t, 1⟩]) := Lib.hid (vis_first (gap := gap) hgk)
                    obtain rfl : n2 = 0 := by omega
                    clear HN2 hgk hgw
                    have hone := viL_one ⟨t, t, 1⟩
                    go_wp2_with (at_builtin; refine wpList_append_sl rfl _ _ 36 rfl w.heap.size 40 Try.underlying36 vis_info rfl (by decide) rfl (ownsRow_ext hoV (ext_alloc _ _)) rfl (Sl.new wr (viC ⟨t, t, 1⟩) _ 1 1 (by omega) (by decide)) rfl hone (by unfold maxLen; omega) (by omega) (by have := hbq.size; simp; omega) ?_; intro v7 w7 hown7 hg7 _)
                    have hoA := ownsRow_ext hoV (ext_alloc wr (.cells (viC ⟨t, t, 1⟩) 40))
                    have hZA := ownsRow_ext hoZ (ext_alloc wr (.cells (viC ⟨t, t, 1⟩) 40))
                    have hoZ8 := hZA.kept hg7 (own_ne_own hZA hoA (by decide))
                    have hb8 : Below w.heap.size w w7 := (hbq.trans ((ext_alloc wr (.cells (viC ⟨t, t, 1⟩) 40)).mono hbq.size)).grown hg7 (by have := hbq.size; simp; omega) (fun q hq => (hoA.lt q hq).1)
                    have hoV9 : w7.ownsRow w.heap.size 40 3 v7 (0 + 1) ((visX gap (Z.take (0 + 1))).flatMap viL) := by rw [HNW.out]; exact hown7
                    have HNL : Hid ((visX gap (Z.take (0 + 1))).length = 0 + 1) := Lib.hid (by rw [HNW.out]; rfl)
                    clear hown7 hg7 hoA hZA hbq hoZ hoV hone c0 HNW
                    go_wp2
                    go_roundw
                    case rel => exact ⟨0 + 1, 0 + 1, by omega, by go_num, HNL, by omega, hoV9, hoZ8, hb8⟩
                    case measure => simp [intOf]; omega
                  | succ j =>
                    obtain ⟨p, hpj⟩ : ∃ p, Z[j]? = some p := ⟨_, List.getElem?_eq_getElem (by omega)⟩
                    have hp := HZB.out p (List.mem_of_getElem? hpj)
                    obtain ⟨vs, v, e1, e2, e3, e4, e5⟩ := vis_round (gap := gap) HZS.out hgk (Nat.succ_pos j) (by simpa using hpj)
                    obtain ⟨m, rfl⟩ : ∃ m, n2 = m + 1 := ⟨vs.length, by have h9 := HN2.out; rw [e1, List.length_append] at h9; exact h9.symm⟩
                    have hvl : vs.length = m := by have h9 := HN2.out; rw [e1, List.length_append, List.length_singleton] at h9; omega
                    rw [e1] at hoV
                    rw [← e2] at e5 hp
                    clear HN2 hgk hgw hpj e1 e2
                    obtain ⟨g2, cap2, hgV, hgb⟩ := own_form hoV (by omega)
                    obtain rfl : gV = some ⟨g2, 0, none⟩ := by injection hgV
                    obtain rfl : cV = cap2 := by injection hgV
                    clear hgV
                    obtain ⟨c1, f1⟩ := own_cell hoV (viL_get vs v).1
                    obtain ⟨c2, f2⟩ := own_cell hoV (viL_get vs v).2
                    rw [hvl] at c1 c2 f1 f2
                    by_cases hgq : t - v.to ≤ gap
                    · have HNW : Hid (visX gap (Z.take (j + 1 + 1)) = vs ++ [(⟨v.fr, t, v.n + 1⟩ : Vis)]) := Lib.hid (by rw [e5, if_pos hgq])
                      have hgd : decide (t - v.to ≤ gap) = true := decide_eq_true hgq
                      have hoV2 := own_set (own_set hoV (i := vs.length * 3 + 1) (List.getElem?_eq_some_iff.1 (viL_get vs v).1).1 (.int .i64 t)) (i := vs.length * 3 + 2) (by rw [List.length_set]; exact (List.getElem?_eq_some_iff.1 (viL_get vs v).2).1) (.int .i64 (v.n + 1))
                      rw [viL_set, show (vs ++ [(⟨v.fr, t, v.n + 1⟩ : Vis)]).flatMap viL = (visX gap (Z.take (j + 1 + 1))).flatMap viL by rw [HNW.out]] at hoV2
                      have hoZ2 := own_other (own_other hoZ hoV (by decide) (vs.length * 3 + 1) (.int .i64 t)) (own_set hoV (List.getElem?_eq_some_iff.1 (viL_get vs v).1).1 (.int .i64 t)) (by decide) (vs.length * 3 + 2) (.int .i64 (v.n + 1))
                      have hbS := below_set (below_set hbq hgb (i := vs.length * 3 + 1) (.int .i64 t)) hgb (i := vs.length * 3 + 2) (.int .i64 (v.n + 1))
                      have HNL : Hid ((visX gap (Z.take (j + 1 + 1))).length = m + 1) := Lib.hid (by rw [HNW.out, List.length_append, hvl]; rfl)
                      rw [hvl] at hoV2 hoZ2 hbS
                      clear e5 hvl HNW
                      go_wp2
                      exact ⟨⟨j + 1 + 1, m + 1, by omega, by go_num, HNL, by omega, hoV2, hoZ2, hbS⟩, by simp [intOf]; omega⟩
                    · have HNW : Hid (visX gap (Z.take (j + 1 + 1)) = (vs ++ [v]) ++ [(⟨t, t, 1⟩ : Vis)]) := Lib.hid (by rw [e5, if_neg hgq])
                      have hgd : decide (t - v.to ≤ gap) = false := decide_eq_false hgq
                      clear e5 hgq
                      have hone := viL_one ⟨t, t, 1⟩
                      go_wp2_with (at_builtin; refine wpList_append_sl rfl _ _ 36 rfl w.heap.size 40 Try.underlying36 vis_info rfl (by decide) rfl (ownsRow_ext hoV (ext_alloc _ _)) rfl (Sl.new wr (viC ⟨t, t, 1⟩) _ 1 1 (by omega) (by decide)) rfl hone (by unfold maxLen; omega) (by omega) (by have := hbq.size; simp; omega) ?_; intro v7 w7 hown7 hg7 _)
                      have hoA := ownsRow_ext hoV (ext_alloc wr (.cells (viC ⟨t, t, 1⟩) 40))
                      have hZA := ownsRow_ext hoZ (ext_alloc wr (.cells (viC ⟨t, t, 1⟩) 40))
                      have hoZ8 := hZA.kept hg7 (own_ne_own hZA hoA (by decide))
                      have hb8 : Below w.heap.size w w7 := (hbq.trans ((ext_alloc wr (.cells (viC ⟨t, t, 1⟩) 40)).mono hbq.size)).grown hg7 (by have := hbq.size; simp; omega) (fun q hq => (hoA.lt q hq).1)
                      have hoV9 : w7.ownsRow w.heap.size 40 3 v7 (m + 1 + 1) ((visX gap (Z.take (j + 1 + 1))).flatMap viL) := by rw [HNW.out, List.flatMap_append]; exact hown7
                      have HNL : Hid ((visX gap (Z.take (j + 1 + 1))).length = m + 1 + 1) := Lib.hid (by rw [HNW.out, List.length_append, List.length_append, hvl]; rfl)
                      clear hown7 hg7 hoA hZA hbq hoZ hoV hone c0 HNW c1 c2 f1 f2 hgb hvl
                      go_wp2
                      go_roundw
                      case rel => exact ⟨j + 1 + 1, m + 1 + 1, by omega, by go_num, HNL, by omega, hoV9, hoZ8, hb8⟩
                      case measure => simp [intOf]; omega
                · have hTk : Z.take k = Z := List.take_of_length_le (by omega)
                  rw [hTk] at hoV HN2
                  obtain ⟨gV, cV, rfl⟩ := own_shape hoV
                  have HP : Hid (∃ (b : Option Addr) (d : Nat), Ending.returned (.tuple #[.slice gV n2 cV, .int .i64 0]) = .returned (.tuple #[.slice b (visV l key gap).length d, .int .i64 (visF l key gap)]) ∧ Sl wr (.slice b (visV l key gap).length d) (visV l key gap).length ((visV l key gap).flatMap viL) ∧ Below w.heap.size w wr) := Lib.hid (by
                    rw [HN.out, HVN.out, HN2.out]
                    exact ⟨gV, cV, rfl, Sl.ofOwn hoV, hbq⟩)
                  clear hoV hoZ hbq HVN HN2 hTk
                  go_wp2
                  exact bodyPost_ret (v := .tuple #[.slice gV n2 cV, .int .i64 0]) (by simp [results, Try.results9, go_sem]) rfl HP.out
  · have hne : (f != 0) = true := by simpa using h0
    have HN : Hid (visF l key gap = f) := Lib.hid (HF.out.trans (if_pos h0))
    have H0 := Lib.hid h0
    have HV0 : Hid (visV l key gap = []) := Lib.hid (by unfold visV; rw [if_neg (by rw [HN.out]; first | exact H0.out | decide)])
    clear h0
    go_wp2
    exact bodyPost_ret (v := .tuple #[.slice none 0 0, .int .i64 f]) (by simp [results, Try.results9, go_sem]) rfl ⟨none, 0, by rw [HN.out, HV0.out]; rfl, by rw [HV0.out]; exact Sl.nil _, hb1⟩
end Ex
end Go.Proofs.Ytacchooggifnhaa
