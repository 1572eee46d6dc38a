/- combine of the program. Printed by gen_comb.py. What stays where the blocks from a number on stay; values written into rows. No program stands in it. -/
import Derived.Test.YtiogfdkdhfmamaaGreatDoorRb11
import Derived.Deep.AppendLies
namespace Go.Proofs.YtiogfdkdhfmamaaGreatDoor
open Go.RowKit
namespace Rg
open _root_.Go.Proofs.YtiogfdkdhfmamaaGreatDoor.Nt (RH RH.cell RH.box RH.lt RH.new RH.ext RH.fre RH.set RH.other)
theorem own_base {w : World} {base e size n : Nat} {v : Value} {xs : List Value} (h : w.ownsRow base e size v n xs) : ∀ q, v.ownBlock = some q → base ≤ q ∧ q < w.heap.size := by
  intro q hq
  obtain ⟨_, ⟨rfl, _⟩ | ⟨g, cap, cur, rfl, hb, hg, _⟩⟩ := h
  · cases hq
  · cases hq; exact ⟨hb, (Array.getElem?_eq_some_iff.1 hg).1⟩
theorem own_mono {w : World} {base base' e size n : Nat} {v : Value} {xs : List Value} (h : w.ownsRow base e size v n xs) (hb : base' ≤ base) : w.ownsRow base' e size v n xs := by
  obtain ⟨h1, h2 | ⟨g, cap, cur, hv, hB, hr⟩⟩ := h
  · exact ⟨h1, .inl h2⟩
  · exact ⟨h1, .inr ⟨g, cap, cur, hv, Nat.le_trans hb hB, hr⟩⟩
theorem rh_grown {w w' : World} {b : Nat} {A : Array Value} {t : TypeId} {r : Option Nat} (h : RH w b A t) (hg : w.grownBy w' r) (hr : some b ≠ r) : RH w' b A t := by
  unfold RH; rw [hg.block b h.lt hr]; exact h
theorem below_own {B : Nat} {w0 w w' : World} {e size n : Nat} {v : Value} {xs : List Value} (hb : Below B w0 w) (h : w.ownsRow B e size v n xs) (hg : w.grownBy w' v.ownBlock) (hB : B ≤ w.heap.size) : Below B w0 w' := hb.grown hg hB (fun q hq => (own_base h q hq).1)
theorem ca_all (s : CA) : (caL s).toArray.all (·.oneCell') = true := by
  rw [Array.all_eq_true_iff_forall_mem]
  exact fun v hv => caL_one s v (by simpa using hv)
abbrev caA (c : CA) : Array Value := #[.int .i64 c.c.v.ma, .int .i64 c.c.v.mi, .int .i64 c.c.v.pa, .slice c.a c.c.v.pre.length c.n, .bool c.c.af]
/-- a stretch of places, with where their texts lie -/
def saO (s : Str CA) : SA := ⟨s.fr, s.to.getD zeroA, s.to.isNone⟩
def strC (s : Str CA) : Str Ct := ⟨s.fr.c, s.to.map (·.c)⟩
theorem saO_raw (s : Str CA) : (saO s).raw = ofS (strC s) := by
  obtain ⟨fr, t1⟩ := s
  cases t1 <;> rfl
def gA (f : Bool → Bool → Bool) (la lb : List SA) (c : CA) : Bool := f (cvL la c.c) (cvL lb c.c)
theorem endAt_map (l : List (Str CA)) (c : CA) : (endAt l c).map strC = endAt (l.map strC) c.c := by
  unfold endAt
  rw [List.getLast?_map]
  cases h : l.getLast? with
  | none => rfl
  | some s => simp [strC, List.map_dropLast]
theorem step_map (f : Bool → Bool → Bool) (la lb : List SA) (st : List (Str CA) × Bool) (c : CA) :
    ((stepC (gA f la lb) st c).1.map strC, (stepC (gA f la lb) st c).2) = stepC (fun c => f (cvL la c) (cvL lb c)) (st.1.map strC, st.2) c.c := by
  unfold stepC gA
  simp only
  split
  · simp [strC]
  · split
    · simp [endAt_map]
    · rfl
theorem comb_map (f : Bool → Bool → Bool) (la lb : List SA) (C : List CA) :
    ((comb (gA f la lb) C).1.map strC, (comb (gA f la lb) C).2) = comb (fun c => f (cvL la c) (cvL lb c)) (C.map (·.c)) := by
  unfold comb
  suffices h : ∀ (C : List CA) (st : List (Str CA) × Bool), ((C.foldl (stepC (gA f la lb)) st).1.map strC, (C.foldl (stepC (gA f la lb)) st).2) = (C.map (·.c)).foldl (stepC (fun c => f (cvL la c) (cvL lb c))) (st.1.map strC, st.2) from h C ([], false)
  intro C
  induction C with
  | nil => intro st; rfl
  | cons c r ih => intro st; rw [List.foldl_cons, ih, step_map, List.map_cons, List.foldl_cons]
theorem comb_ind {α : Type} (g : α → Bool) (P : List α → List (Str α) × Bool → Prop) (h0 : P [] ([], false)) (hs : ∀ l c st, P l st → P (l ++ [c]) (stepC g st c)) (C : List α) : P C (comb g C) := by
  have h : ∀ (C l : List α) (st : List (Str α) × Bool), P l st → P (l ++ C) (C.foldl (stepC g) st) := by
    intro C
    induction C with
    | nil => intro l st h; simpa using h
    | cons c r ih =>
      intro l st h
      have := ih (l ++ [c]) _ (hs l c st h)
      simpa using this
  exact h C [] _ h0
theorem endAt_snoc {α : Type} (U : List (Str α)) (s : Str α) (c : α) : endAt (U ++ [s]) c = U ++ [⟨s.fr, some c⟩] := by
  unfold endAt
  simp
/-- what the loop over places holds -/
structure CombI {α : Type} (l : List α) (st : List (Str α) × Bool) : Prop where
  op : st.2 = true → ∃ U fr, st.1 = U ++ [⟨fr, none⟩]
  len : 2 * st.1.length ≤ l.length + (if st.2 = true then 1 else 0)
  mem : ∀ s ∈ st.1, s.fr ∈ l ∧ ∀ t, s.to = some t → t ∈ l
theorem comb_i {α : Type} (g : α → Bool) (C : List α) : CombI C (comb g C) := by
  refine comb_ind g CombI ⟨(fun h => by cases h), (by simp), (fun s h => by cases h)⟩ (fun l c st h => ?_) C
  obtain ⟨U, o⟩ := st
  obtain ⟨h1, h2, h3⟩ := h
  simp only at h1 h2 h3
  have hm : ∀ s ∈ U, s.fr ∈ l ++ [c] ∧ ∀ t, s.to = some t → t ∈ l ++ [c] := fun s hs => ⟨List.mem_append_left _ (h3 s hs).1, fun t ht => List.mem_append_left _ ((h3 s hs).2 t ht)⟩
  unfold stepC
  cases hg : g c <;> cases o
  · simp only [Bool.false_eq_true, false_and, if_false, and_false] at h2 ⊢
    exact ⟨(fun h => by cases h), (by simp; omega), hm⟩
  · obtain ⟨V, fr, rfl⟩ := h1 rfl
    simp only [Bool.false_eq_true, false_and, if_false, true_and, if_true] at h2 ⊢
    rw [endAt_snoc]
    refine ⟨(fun h => by simp at h), (by simp at h2 ⊢; omega), fun s hs => ?_⟩
    rcases List.mem_append.1 hs with h | h
    · exact hm s (List.mem_append_left _ h)
    · rw [List.mem_singleton] at h
      subst h
      refine ⟨(hm _ (List.mem_append_right _ (List.mem_singleton.2 rfl))).1, fun t ht => ?_⟩
      cases ht
      exact List.mem_append_right _ (List.mem_singleton.2 rfl)
  · simp only [Bool.false_eq_true, if_false, true_and, if_true] at h2 ⊢
    refine ⟨(fun _ => ⟨U, c, rfl⟩), (by simp; omega), fun s hs => ?_⟩
    rcases List.mem_append.1 hs with h | h
    · exact hm s h
    · rw [List.mem_singleton] at h
      subst h
      exact ⟨List.mem_append_right _ (List.mem_singleton.2 rfl), fun t ht => by cases ht⟩
  · simp only [Bool.true_eq_false, and_false, false_and, if_false, if_true] at h2 ⊢
    exact ⟨(fun _ => h1 rfl), (by simp; omega), hm⟩
theorem comb_post (f : Bool → Bool → Bool) (hf : f false false = false) (la lb : List SA) (w : World) (ha : ∀ s ∈ la, s.ok w) (hb : ∀ s ∈ lb, s.ok w)
    (ka : ∀ c ∈ cutsL ((la.map SA.raw).map toS), okC c) (kb : ∀ c ∈ cutsL ((lb.map SA.raw).map toS), okC c) (C : List CA) (hp : C.Perm (cutsAL la ++ cutsAL lb)) (hs : C.Pairwise (fun a b => cmpC a.c b.c ≤ 0)) :
    (∀ s ∈ (comb (gA f la lb) C).1.map saO, s.ok w) ∧ TogR f (la.map SA.raw) (lb.map SA.raw) (((comb (gA f la lb) C).1.map saO).map SA.raw) ∧ ((comb (gA f la lb) C).1.map saO).length ≤ la.length + lb.length := by
  obtain ⟨_, i2, i3⟩ := comb_i (gA f la lb) C
  have hC : ∀ c ∈ C, c.ok w := fun c hc => (List.mem_append.1 (hp.mem_iff.1 hc)).elim (cutsAL_ok ha c) (cutsAL_ok hb c)
  refine ⟨fun s hs => ?_, ?_, ?_⟩
  · obtain ⟨q, hq, rfl⟩ := List.mem_map.1 hs
    obtain ⟨j1, j2⟩ := i3 q hq
    refine ⟨hC _ j1, ?_⟩
    show (q.to.getD zeroA).ok w
    cases ht : q.to with
    | none => exact zeroA_ok w
    | some t => exact hC _ (j2 t ht)
  · have hmem : ∀ c, c ∈ C.map (·.c) ↔ c ∈ cutsL ((la.map SA.raw).map toS) ∨ c ∈ cutsL ((lb.map SA.raw).map toS) := fun c => by
      have h3 := (hp.map (·.c)).mem_iff (a := c)
      rw [h3, List.map_append, List.mem_append, cutsAL_is, cutsAL_is]
    have hpw : (C.map (·.c)).Pairwise (fun p q => cmpC p q ≤ 0) := List.pairwise_map.2 hs
    have h1 := togR_of hf ka kb hpw hmem
    have h2 := comb_map f la lb C
    have e1 : (fun c => f (cov cmpC ((la.map SA.raw).map toS) c) (cov cmpC ((lb.map SA.raw).map toS) c)) = fun c => f (cvL la c) (cvL lb c) := by
      funext c; rw [cvL_is, cvL_is]
    rw [e1, ← h2] at h1
    have e2 : ((comb (gA f la lb) C).1.map saO).map SA.raw = ((comb (gA f la lb) C).1.map strC).map ofS := by
      rw [List.map_map, List.map_map]
      exact List.map_congr_left fun s _ => saO_raw s
    rw [e2]; exact h1
  · rw [List.length_map]
    have := hp.length_eq
    rw [List.length_append] at this
    have := cutsAL_len la; have := cutsAL_len lb
    split at i2 <;> omega
/-- what combine answers -/
def CombPost (f : Bool → Bool → Bool) (la lb : List SA) (w : World) (e : Ending) (w' : World) : Prop :=
  ∃ v R, e = .returned v ∧ OS w' w.heap.size v R ∧ (∀ s ∈ R, s.ok w) ∧ TogR f (la.map SA.raw) (lb.map SA.raw) (R.map SA.raw) ∧ R.length ≤ la.length + lb.length ∧ Below w.heap.size w w'
set_option maxRecDepth 100000 in
set_option maxHeartbeats 16000000 in
theorem combine_at (la lb : List SA) (aa ab : Option Addr) (na nb : Nat) (g : Nat) (f : Bool → Bool → Bool) (eg : ∀ args w, (callFunc g args).run Tryz.prog w = .ok (.enter g args) w)
    (hg : ∀ p q W, Calls Tryz.prog g #[.bool p, .bool q] W fun e w' => e = .returned (.bool (f p q)) ∧ Below W.heap.size W w') (hff : f false false = false) (w : World) (ha : RA w aa na la) (hb : RA w ab nb lb) (hla : la.length ≤ 2000) (hlb : lb.length ≤ 2000)
    (ka : ∀ c ∈ cutsL ((la.map SA.raw).map toS), okC c) (kb : ∀ c ∈ cutsL ((lb.map SA.raw).map toS), okC c) :
    Calls Tryz.prog 19 #[.slice aa la.length na, .slice ab lb.length nb, .func (.func g) #[] #[]] w (CombPost f la lb w) := by
  have H : Hid (∀ k, k < 2 → ∃ (lx : List SA) (ax : Option Addr) (nx : Nat), RA w ax nx lx ∧ (#[Value.slice aa la.length na, Value.slice ab lb.length nb] : Array Value)[k]? = some (.slice ax lx.length nx) ∧ lx.length ≤ 2000 ∧ [la, lb][k]? = some lx) := Lib.hid (fun k hk => by
    obtain rfl | rfl : k = 0 ∨ k = 1 := by omega
    · exact ⟨la, aa, na, ha, rfl, hla, rfl⟩
    · exact ⟨lb, ab, nb, hb, rfl, hlb, rfl⟩)
  have HA := Lib.hid ha
  have HB := Lib.hid hb
  have HG := Lib.hid hg
  have HK := Lib.hid ka
  have HL := Lib.hid kb
  clear ha hb hg ka kb
  go_enter Tryz.func19, Tryz.ntmps19
  go_upto_region 3 with (fail)
  refine Nt.wp_row1 fun W0 hW0 hR0 => ?_
  have hw0 : w.heap.size < W0.heap.size := hR0.lt
  go_loopw [7, 21] (fun v i wr => ∃ (k : Nat) (U : List CA), k ≤ 2 ∧ i = .int .i64 (k : Int) ∧ Hid (U = cutsAL (([la, lb].take k).flatten)) ∧ OC wr W0.heap.size v U ∧ Below W0.heap.size W0 wr) (fun _ i _ => 2 - (intOf i).toNat)
  case atStart => exact ⟨0, [], by omega, rfl, rfl, World.ownsRow_nil _ _ _ _, Below.refl _ _⟩
  case round =>
    obtain ⟨k, U, hk, rfl, HU, hO, hw⟩ := hrel
    generalize hX : wr = X at *
    clear hX
    by_cases hlt : k < 2
    · obtain ⟨lx, ax, nx, hx, hcx, hlx, hgx⟩ := H.out k hlt
      have hcX : X.cell? ⟨w.heap.size, k, none⟩ = some (.slice ax lx.length nx) := (hw.cell (p := ⟨w.heap.size, k, none⟩) hw0).trans ((hR0.cell k).trans hcx)
      have hl63 : (lx.length : Int) ≤ 2000 := by omega
      have HX := Lib.hid hx
      have HGX := Lib.hid hgx
      clear hx hcx hgx
      have hk2 : (k : Int) < 2 := by omega
      go_wp2
      go_loopw [7, 27] (fun v j wr => ∃ (m : Nat) (V : List CA), m ≤ lx.length ∧ j = .int .i64 (m : Int) ∧ Hid (V = U ++ cutsAL (lx.take m)) ∧ OC wr W0.heap.size v V ∧ Below W0.heap.size W0 wr) (fun _ j _ => lx.length - (intOf j).toNat)
      case atStart => exact ⟨0, U, by omega, rfl, Lib.hid (by simp [cutsAL]), hO, hw⟩
      case round =>
        obtain ⟨m, V, hm, rfl, HV, hOV, hwV⟩ := hrel
        clear hO hw hcX
        generalize hY : wr = Y at *
        clear hY
        by_cases hmt : m < lx.length
        · obtain ⟨s, hs⟩ : ∃ s, lx[m]? = some s := ⟨_, List.getElem?_eq_getElem hmt⟩
          have hwR := ext_trans hW0 hwV
          obtain ⟨hok, p, o, rfl, hp0, hcell⟩ := (HX.out.ext hwR).at hs
          have hmx : (m : Int) < (lx.length : Int) := by omega
          have hlV : V.length ≤ 20000 := by
            have h9 := HV.out
            have h8 := HU.out
            have h7 := cutsAL_len (lx.take m)
            have h6 := cutsAL_len (([la, lb].take k).flatten)
            have h5 : (([la, lb].take k).flatten).length ≤ 4000 := by
              obtain rfl | rfl : k = 0 ∨ k = 1 := by omega
              · simp
              · simp; omega
            have h4 : (lx.take m).length ≤ 2000 := by rw [List.length_take]; omega
            rw [h9, List.length_append, h8]; omega
          have HVs : Hid (V ++ cutsA s = U ++ cutsAL (lx.take (m + 1))) := Lib.hid (by rw [HV.out, cutsAL_take hs, List.append_assoc])
          clear hs HV
          go_upto_region 8 with (first | (refine wpList_load_agg rfl _ _ rfl p (o + m * 11) (by rfl) (saL s) (fun j v hj => by rw [Nat.add_assoc]; exact hcell j v hj) _ Tryz.underlying33 rfl (sa_info s) ?_) | (refine wpList_store_row rfl _ _ _ rfl Y.heap.size (saL s).toArray rfl rfl _ _ (Nt.RH.new _ _ _) (sa_info s) rfl (sa_all s) ?_))
          refine wp_stored fun W hbW hR => ?_
          have hOW := ownsRow_ext hOV hbW
          have hwW := ext_trans hwV hbW
          have hbb : some Y.heap.size ≠ u7.ownBlock := fun e => by have := (own_base hOV _ e.symm).2; omega
          have hYW : W0.heap.size ≤ Y.heap.size := hwV.size
          clear hbW hOV hwV hcell hp0
          generalize hb9 : Y.heap.size = b at *
          clear hb9
          have hcl : (caL s.fr).length = 5 := rfl
          have hcl2 : (caL s.to).length = 5 := rfl
          have hdW := (Nat.le_trans hwW.size (ext_alloc W (.cells (caL s.fr).toArray 31)).size)
          go_upto_region 9 with (first | (refine wpList_load_agg rfl _ _ rfl b 0 (by rfl) (caL s.fr) (rh_fr hR) _ Tryz.underlying31 rfl (ca_info s.fr) ?_) | (refine wpList_append_cut rfl _ _ rfl W0.heap.size _ V rfl (ownsRow_ext hOW (ext_alloc _ _)) _ _ s.fr rfl (C5.new W s.fr _) (by omega) hdW ?_; intro v1 w1 hO1 hg1))
          have hbd : some b ≠ u7.ownBlock := hbb
          replace hR := rh_grown (hR.ext (ext_alloc W _)) hg1 hbd
          have hw1 := below_own (hwW.trans (ext_alloc W _ |>.mono (hwW.size))) (ownsRow_ext hOW (ext_alloc W _)) hg1 hdW
          have hen := rh_en hR
          clear hOW hwW hg1 hdW hbb hbd
          by_cases he : s.en = true
          · rw [he] at hen
            have HN : Hid (V ++ [s.fr] = U ++ cutsAL (lx.take (m + 1))) := Lib.hid (by rw [← HVs.out]; simp [cutsA, he])
            clear he HVs
            go_wp2
            go_roundw
            case rel => exact ⟨m + 1, V ++ [s.fr], by omega, by go_num, HN, hO1, hw1⟩
            case measure => simp [intOf]; omega
          · have he' : s.en = false := by simpa using he
            rw [he'] at hen
            have HN : Hid ((V ++ [s.fr]) ++ [s.to] = U ++ cutsAL (lx.take (m + 1))) := Lib.hid (by rw [← HVs.out]; simp [cutsA, he'])
            have hl2 : (V ++ [s.fr]).length ≤ 100000 := by rw [List.length_append, List.length_singleton]; omega
            have hdW := (Nat.le_trans hw1.size (ext_alloc w1 (.cells (caL s.to).toArray 31)).size)
            clear he he' HVs
            go_upto_region 11 with (first | (refine wpList_load_agg rfl _ _ rfl b 5 (by rfl) (caL s.to) (rh_to hR) _ Tryz.underlying31 rfl (ca_info s.to) ?_) | (refine wpList_append_cut rfl _ _ rfl W0.heap.size _ (V ++ [s.fr]) rfl (ownsRow_ext hO1 (ext_alloc _ _)) _ _ s.to rfl (C5.new w1 s.to _) hl2 hdW ?_; intro v2 w2 hO2 hg2))
            have hw2 := below_own (hw1.trans (ext_alloc w1 _ |>.mono (hw1.size))) (ownsRow_ext hO1 (ext_alloc w1 _)) hg2 hdW
            clear hO1 hg2 hw1 hR hen
            go_wp2
            go_roundw
            case rel => exact ⟨m + 1, V ++ [s.fr] ++ [s.to], by omega, by go_num, HN, hO2, hw2⟩
            case measure => simp [intOf]; omega
        · have HN : Hid (V = cutsAL (([la, lb].take (k + 1)).flatten)) := Lib.hid (by
            have h1 := HV.out
            rw [List.take_of_length_le (by omega), HU.out] at h1
            obtain ⟨hk2, e9⟩ := List.getElem?_eq_some_iff.1 HGX.out
            rw [h1, List.take_succ_eq_append_getElem hk2, e9, List.flatten_append]
            simp [cutsAL])
          clear HV HU
          go_wp2
          go_roundw
          case rel => exact ⟨k + 1, V, by omega, by go_num, HN, hOV, hwV⟩
          case measure => simp [intOf]; omega
    · have HC0 : Hid (U = cutsAL la ++ cutsAL lb) := Lib.hid (by
        rw [HU.out, show k = 2 by omega]; simp [cutsAL])
      have hUok : ∀ c ∈ U, c.ok W0 := by
        rw [HC0.out]
        intro c hc
        rcases List.mem_append.1 hc with h | h
        · exact (cutsAL_ok HA.out.ok c h).ext hW0
        · exact (cutsAL_ok HB.out.ok c h).ext hW0
      have hUl : U.length ≤ 8000 := by
        rw [HC0.out, List.length_append]
        have := cutsAL_len la; have := cutsAL_len lb; omega
      have HS := Lib.hid (sortCut_at W0 X hw U hUok (by omega) u7 hO)
      clear HU H
      go_wp2_with fail
      refine HS.out.mono ?_
      rintro e w1 ⟨rfl, C, hp, hsrt, hO1, hg1⟩
      have hw1 := below_own hw hO hg1 hw.size
      have hCl : C.length = U.length := hp.length_eq
      have HCok : Hid (∀ c ∈ C, c.ok W0) := Lib.hid (fun c hc => hUok c (hp.mem_iff.1 hc))
      have HP := Lib.hid hp
      have HT := Lib.hid hsrt
      clear hO hg1 hw HS hp hsrt
      -- the places in order lie there as long as the call runs: rows of its own stand on the world behind the sort
      obtain ⟨a7, c7, rfl, hn7, hm7, _, hc7⟩ := Sl.ofOwn hO1
      have hC400 : (C.length : Int) ≤ 8000 := by omega
      have hcC : Hid (∀ (m : Nat) (c : CA), C[m]? = some c → ∃ b o, a7 = some ⟨b, o, none⟩ ∧ b < w1.heap.size ∧ ∀ (j : Nat) (x : Value), (caL c)[j]? = some x → w1.cell? ⟨b, o + (m * 5 + j), none⟩ = some x) := Lib.hid (fun m c hm => by
        obtain ⟨b, o, rfl, h0⟩ := hc7 _ _ (flat_get caL_len C m c hm 0 _ rfl)
        refine ⟨b, o, rfl, World.block_lt_of_cell? _ _ h0, fun j x hx => ?_⟩
        obtain ⟨b', o', e, h1⟩ := hc7 _ _ (flat_get caL_len C m c hm j x hx)
        cases e
        exact h1)
      go_wp2
      go_loopw [12, 13, 50] (fun v b i wr => ∃ (m : Nat), m ≤ C.length ∧ i = .int .i64 (m : Int) ∧ b = .bool (comb (gA f la lb) (C.take m)).2 ∧ OS wr w1.heap.size v ((comb (gA f la lb) (C.take m)).1.map saO) ∧ Below w1.heap.size w1 wr) (fun _ _ i _ => C.length - (intOf i).toNat)
      case atStart => exact ⟨0, by omega, rfl, rfl, World.ownsRow_nil _ _ _ _, Below.refl _ _⟩
      case round =>
        obtain ⟨m, hm, rfl, hop, hOS, hw⟩ := hrel
        generalize hY : wr = Y at *
        clear hY
        obtain ⟨st, hst⟩ : ∃ st, comb (gA f la lb) (C.take m) = st := ⟨_, rfl⟩
        have HI := Lib.hid (hst ▸ comb_i (gA f la lb) (C.take m))
        rw [hst] at hop hOS
        obtain ⟨U, op⟩ := st
        replace hOS : OS Y w1.heap.size u12 (U.map saO) := hOS
        subst hop
        have HST := Lib.hid hst
        clear hst
        by_cases hmt : m < C.length
        · obtain ⟨c, hc⟩ : ∃ c, C[m]? = some c := ⟨_, List.getElem?_eq_getElem hmt⟩
          obtain ⟨p, o, rfl, hp0, hcell⟩ := hcC.out m c hc
          have hmx : (m : Int) < (C.length : Int) := by omega
          have hcc : ∀ (j : Nat) (x : Value), (caL c)[j]? = some x → Y.cell? ⟨p, o + m * 5 + j, none⟩ = some x := fun j x hx => by rw [Nat.add_assoc]; exact (hw.cell (p := ⟨p, o + (m * 5 + j), none⟩) hp0).trans (hcell j x hx)
          go_upto_region 19 with (first | (refine wpList_load_agg rfl _ _ rfl p (o + m * 5) (by rfl) (caL c) hcc _ Tryz.underlying31 rfl (ca_info c) ?_) | (refine wpList_store_row rfl _ _ _ rfl Y.heap.size (caL c).toArray rfl rfl _ _ (Nt.RH.new _ _ _) (ca_info c) rfl (ca_all c) ?_))
          refine wp_stored fun W hbW hR => ?_
          have hW1 := ext_trans hw hbW
          have hOW := ownsRow_ext hOS hbW
          have hwW := ext_trans (ext_trans hW0 hw1) hW1
          have hX : Box W Y.heap.size (caA c) := hR.box
          have HCA : Hid (∀ V, Below w.heap.size w V → Below W.heap.size W V → Calls Tryz.prog 27 #[.slice aa la.length na, .agg (caL c).toArray] V fun e w' => e = .returned (.bool (cvL la c.c)) ∧ Below V.heap.size V w') := Lib.hid (fun V hV hV2 => covers_at la c aa na V (HA.out.ext hV) ((HCok.out c (List.mem_of_getElem? hc)).ext (ext_trans (ext_trans hw1 hW1) hV2)))
          have HCB : Hid (∀ V, Below w.heap.size w V → Below W.heap.size W V → Calls Tryz.prog 27 #[.slice ab lb.length nb, .agg (caL c).toArray] V fun e w' => e = .returned (.bool (cvL lb c.c)) ∧ Below V.heap.size V w') := Lib.hid (fun V hV hV2 => covers_at lb c ab nb V (HB.out.ext hV) ((HCok.out c (List.mem_of_getElem? hc)).ext (ext_trans (ext_trans hw1 hW1) hV2)))
          have HGA : gA f la lb c = f (cvL la c.c) (cvL lb c.c) := rfl
          have hbb : some Y.heap.size ≠ u12.ownBlock := fun e => by have := (own_base hOS _ e.symm).2; omega
          have hYW : w1.heap.size ≤ Y.heap.size := hw.size
          have HTK := comb_take (g := gA f la lb) hc
          rw [HST.out] at HTK
          have HTK := Lib.hid HTK
          clear hOS hbW hcc hcell hp0 hc HST
          generalize Y.heap.size = b at *
          generalize cvL la c.c = pa at *
          generalize cvL lb c.c = pb at *
          have HGA := Lib.hid HGA
          obtain ⟨_, hX5⟩ := id hX
          go_region_held3 (S2 W b (caA c) b (caA c)) (first | exact S2.start hX hX | exact S2.ext (by with_reducible assumption) (by with_reducible assumption) hX hX | assumption) (first | (go_at_call 27; refine (HCA.out _ (by first | exact hwW.drew | exact ext_trans hwW (by assumption) | exact ext_trans hwW (S2.base (by assumption))) (by first | exact (Below.refl _ _).drew | assumption | exact S2.base (by assumption))).mono ?_; rintro e w3 ⟨rfl, hb3⟩) | (go_at_call 27; refine (HCB.out _ (by first | exact hwW.drew | exact ext_trans hwW (by assumption) | exact ext_trans hwW (S2.base (by assumption))) (by first | exact (Below.refl _ _).drew | assumption | exact S2.base (by assumption))).mono ?_; rintro e w3 ⟨rfl, hb3⟩) | (go_at_fn g; refine (HG.out _ _ _).mono ?_; rintro e w4 ⟨rfl, hb4⟩))
          rename_i hHeld
          obtain ⟨hb9, hc9, _⟩ := hHeld
          have hOV := ownsRow_ext hOW hb9
          have hV1 := ext_trans hW1 hb9
          have hbV : b < w4.heap.size := Nat.lt_of_lt_of_le hX.1 hb9.size
          have hcV : ∀ (j : Nat) (x : Value), (caL c)[j]? = some x → w4.cell? ⟨b, 0 + j, none⟩ = some x := fun j x hx => by rw [Nat.zero_add, hc9 j]; exact (List.getElem?_toArray).trans hx
          clear hb3 hb4 hOW hwW hW1 hR hX hb9 hc9 hX5 HCA HCB
          try clear hb3
          obtain ⟨z, hz⟩ : ∃ z, f pa pb = z := ⟨_, rfl⟩
          rw [hz] at HGA ⊢
          have HZ : Hid (comb (gA f la lb) (C.take (m + 1)) = (if z = true ∧ op = false then U ++ [⟨c, none⟩] else if z = false ∧ op = true then endAt U c else U, z)) := Lib.hid (by
            rw [HTK.out]; unfold stepC; rw [HGA.out])
          clear hz HGA HTK
          cases z <;> cases op
          · have HN : Hid (comb (gA f la lb) (C.take (m + 1)) = (U, false)) := HZ
            clear HZ hcV
            go_wp2
            go_roundw
            case rel => exact ⟨m + 1, by omega, by go_num, by rw [HN.out], by rw [HN.out]; exact hOV, hV1⟩
            case measure => simp [intOf]; omega
          · obtain ⟨V, fr, hVe⟩ := HI.out.op rfl
            simp only at hVe
            subst hVe
            have HN : Hid (comb (gA f la lb) (C.take (m + 1)) = (V ++ [⟨fr, some c⟩], false)) := Lib.hid (by
              rw [HZ.out, if_neg (by simp), if_pos ⟨rfl, rfl⟩, endAt_snoc])
            have hO : w4.ownsRow w1.heap.size 33 11 u12 (V.length + 1) ((V.map saO ++ [saO ⟨fr, none⟩]).flatMap saL) := by simpa using hOV
            have hVl : V.length ≤ 10000 := by
              have := HI.out.len
              simp at this
              omega
            clear HZ hOV
            obtain ⟨g7, cap, rfl, hg1, hg2⟩ := hO.form (by omega)
            go_upto_region 24 with (first | (refine wpList_load_agg rfl _ _ rfl b 0 (by rfl) (caL c) hcV _ Tryz.underlying31 rfl (ca_info c) ?_) | (refine wpList_store_own rfl _ _ _ rfl g7 (V.length * 11 + 5) (.agg (caL c).toArray) (caL c) (by first | rfl | (simp; omega)) rfl rfl w1.heap.size _ 11 _ cap _ hO (by rw [caL_len]; omega) (ca_info c) (caL_one c) ?_; intro w5 hO5 hg5) | (refine wpList_store_own rfl _ _ _ rfl g7 (V.length * 11 + 10) (.bool false) [.bool false] (by first | rfl | (simp; omega)) rfl rfl w1.heap.size _ 11 _ cap _ hO5 (by simp; omega) (by kernel_rfl) (by intro u hu; rw [List.mem_singleton.1 hu]; rfl) ?_; intro w6 hO6 hg6))
            have hE := str_end (V.map saO) (saO ⟨fr, none⟩) c
            rw [List.length_map] at hE
            rw [hE] at hO6
            have hO9 : OS w6 w1.heap.size (.slice (some ⟨g7, 0, none⟩) (V.length + 1) cap) ((V ++ [(⟨fr, some c⟩ : Str CA)]).map saO) := by
              have e1 : ((V ++ [(⟨fr, some c⟩ : Str CA)]).map saO) = V.map saO ++ [SA.mk (saO ⟨fr, none⟩).fr c false] := by simp [saO]
              show World.ownsRow _ _ _ 11 _ ((V ++ [(⟨fr, some c⟩ : Str CA)]).map saO).length _
              rw [e1, List.length_append, List.length_map]; exact hO6
            have hV6 : Below w1.heap.size w1 w6 := (hV1.grown hg5 hV1.size (fun q hq => by cases hq; exact hg1)).grown hg6 (by have := hg5.size; omega) (fun q hq => by cases hq; exact hg1)
            clear hO hO5 hO6 hg5 hg6 hV1 hE hcV
            go_wp2
            go_roundw
            case rel => exact ⟨m + 1, by omega, by go_num, by rw [HN.out], by rw [HN.out]; exact hO9, hV6⟩
            case measure => simp [intOf]; omega
          · have HN : Hid (comb (gA f la lb) (C.take (m + 1)) = (U ++ [⟨c, none⟩], true)) := HZ
            have hUl9 : (U.map saO).length ≤ 100000 := by
              have := HI.out.len
              rw [List.length_map]
              simp at this
              omega
            clear HZ
            have hcX : ∀ (j : Nat) (x : Value), ([.int .i64 c.c.v.ma, .int .i64 c.c.v.mi, .int .i64 c.c.v.pa, .slice c.a c.c.v.pre.length c.n, .bool c.c.af] : List Value)[j]? = some x → w4.cell? ⟨b, 0 + j, none⟩ = some x := hcV
            go_upto_region 22 with (first | (refine wpList_load_agg rfl _ _ rfl b 0 (by rfl) [.int .i64 c.c.v.ma, .int .i64 c.c.v.mi, .int .i64 c.c.v.pa, .slice c.a c.c.v.pre.length c.n, .bool c.c.af] hcX _ Tryz.underlying31 rfl (ca_info c) ?_) | (refine wpList_append_str rfl _ _ rfl w1.heap.size _ (U.map saO) rfl (ownsRow_ext hOV (ext_alloc _ _)) _ _ (saO ⟨c, none⟩) rfl (C11.new w4 (saO ⟨c, none⟩) _) hUl9 (Nat.le_trans hV1.size (ext_alloc w4 _).size) ?_; intro v5 w5 hO5 hg5))
            have hV5 := below_own (hV1.trans ((ext_alloc w4 _).mono hV1.size)) (ownsRow_ext hOV (ext_alloc w4 _)) hg5 (Nat.le_trans hV1.size (ext_alloc w4 _).size)
            have hO9 : OS w5 w1.heap.size v5 ((U ++ [(⟨c, none⟩ : Str CA)]).map saO) := by
              rw [List.map_append]; exact hO5
            clear hO5 hg5 hOV hV1 hcV
            go_wp2
            go_roundw
            case rel => exact ⟨m + 1, by omega, by go_num, by rw [HN.out], by rw [HN.out]; exact hO9, hV5⟩
            case measure => simp [intOf]; omega
          · have HN : Hid (comb (gA f la lb) (C.take (m + 1)) = (U, true)) := HZ
            clear HZ hcV
            go_wp2
            go_roundw
            case rel => exact ⟨m + 1, by omega, by go_num, by rw [HN.out], by rw [HN.out]; exact hOV, hV1⟩
            case measure => simp [intOf]; omega
        · have HPOST : Hid (CombPost f la lb w (.returned u12) Y) := Lib.hid (by
            have hT : C.take m = C := List.take_of_length_le (by omega)
            have h1 := HST.out
            rw [hT] at h1
            have hpp := HP.out
            rw [HC0.out] at hpp
            obtain ⟨k1, k2, k3⟩ := comb_post f hff la lb w HA.out.ok HB.out.ok HK.out HL.out C hpp HT.out
            rw [h1] at k1 k2 k3
            have hle : w.heap.size ≤ w1.heap.size := Nat.le_trans (Nat.le_of_lt hw0) hw1.size
            exact ⟨u12, U.map saO, rfl, own_mono hOS hle, k1, k2, k3, ext_trans (ext_trans hW0 hw1) hw⟩)
          clear HST HI hOS
          go_wp2
          go_ret
          exact HPOST.out

end Rg
end Go.Proofs.YtiogfdkdhfmamaaGreatDoor
namespace Go.Proofs.YtiogfdkdhfmamaaGreatDoor
open Go.RowKit
namespace Rg
open _root_.Go.Proofs.YtiogfdkdhfmamaaGreatDoor.Nt (RH RH.cell RH.box RH.lt RH.new RH.ext RH.fre RH.set RH.other)
/-- the blocks from N on that stand in w stand in w' -/
def Kept (N : Nat) (w w' : World) : Prop := ∀ q, N ≤ q → q < w.heap.size → w'.heap[q]? = w.heap[q]?
theorem Kept.grown {N g : Nat} {w w' : World} (h : w.grownBy w' (some g)) (hg : g < N) : Kept N w w' := fun q h1 h2 => h.block q h2 (by simp; omega)
theorem Kept.below {N : Nat} {w w' : World} (h : Below w.heap.size w w') : Kept N w w' := fun q _ h2 => h.block q h2
theorem Kept.trans {N : Nat} {a b c : World} (h : Kept N a b) (hs : a.heap.size ≤ b.heap.size) (k : Kept N b c) : Kept N a c := fun q h1 h2 => (k q h1 (by omega)).trans (h q h1 h2)
/-- it holds as long as the blocks from N on stay -/
def Fresh (N : Nat) (P : World → Prop) (w : World) : Prop := ∀ w', Kept N w w' → P w'
theorem Fresh.now {N : Nat} {P : World → Prop} {w : World} (h : Fresh N P w) : P w := h w (fun _ _ _ => rfl)
theorem Fresh.kept {N : Nat} {P : World → Prop} {w w' : World} (h : Fresh N P w) (hs : w.heap.size ≤ w'.heap.size) (k : Kept N w w') : Fresh N P w' := fun w'' h'' => h w'' (k.trans hs h'')
theorem Fresh.mono {N M : Nat} {P : World → Prop} {w : World} (h : Fresh N P w) (hN : M ≤ N) : Fresh M P w := fun w' k => h w' (fun q h1 h2 => k q (by omega) h2)
theorem fresh_own {w : World} {N e size n : Nat} {v : Value} {xs : List Value} (h : w.ownsRow N e size v n xs) : Fresh N (fun w => Sl w v n xs) w := fun w' k => by
  obtain ⟨h1, h2 | ⟨g, cap, cur, hv, hB, hg, hr⟩⟩ := h
  · exact Sl.ofOwn (⟨h1, .inl h2⟩ : w'.ownsRow N e size v n xs)
  · exact Sl.ofOwn (⟨h1, .inr ⟨g, cap, cur, hv, hB, (k g hB (Array.getElem?_eq_some_iff.1 hg).1).trans hg, hr⟩⟩ : w'.ownsRow N e size v n xs)
theorem fresh_nil (N : Nat) (w : World) : Fresh N (fun w => Sl w (.slice none 0 0) 0 []) w := fun w' _ => Sl.nil w'
/-- a value written into the middle of a row of which all cells are known -/
theorem wpList_store_in {P : Program} {ops : Array Oper} {rest : List Oper} {op : Oper} {a : Act} {w : World} {Q : Exit → Act → World → Prop} (hgd : op.guard = none) (ty : TypeId) (x y : Operand) (ho : op.op = .store ty x y)
    (b o : Nat) (v : Value) (L : List Value) (hx : a.eval x = .pointer (some ⟨b, o, none⟩)) (hy : a.eval y = v) (hv : v.cells = L.toArray) (A : List Value) (t : TypeId) (hR : RH w b A.toArray t)
    (hfit : o + L.length ≤ A.length) (hi : (P.info? ty).map (·.size) = some L.length) (h1 : ∀ u ∈ L, u.oneCell' = true)
    (h : ∀ w', RH w' b (setL A o L).toArray t → w.grownBy w' (some b) → wpList P ops Q rest (a.put op.dst undef) w') : wpList P ops Q (op :: rest) a w := by
  have key : ∀ (L : List Value) (o : Nat) (w : World) (A : List Value), RH w b A.toArray t → RH (w.setCells b o L) b (setL A o L).toArray t ∧ w.grownBy (w.setCells b o L) (some b) := by
    intro L
    induction L with
    | nil => intro o w A h; exact ⟨h, World.grownBy.refl w _⟩
    | cons v r ih =>
      intro o w A h
      have h2 := h.set o v
      have e : A.toArray.setIfInBounds o v = (A.set o v).toArray := by simp
      rw [e] at h2
      obtain ⟨k1, k2⟩ := ih (o + 1) _ _ h2
      have k0 : w.grownBy (w.setCell ⟨b, o, none⟩ v) (some b) := ⟨rfl, rfl, rfl, by simp, fun k _ hk => heap_setCell_other w ⟨b, o, none⟩ k v (fun e => hk (by simp [e]))⟩
      exact ⟨k1, k0.trans k2⟩
  obtain ⟨k1, k2⟩ := key L o w A hR
  refine wpList_plain hgd fun K hK => ?_
  have hst : (Instr.storeAt ty (.pointer (some ⟨b, o, none⟩)) v).run P w = .ok () (w.setCells b o L) := by
    have := run_storeCells_cells (P := P) b o L 0 w (fun j hj => by
      rw [hR.cell, List.getElem?_toArray, List.getElem?_eq_getElem (by omega)]; rfl) (fun j hj => hR.fre _) h1
    simp only [Instr.storeAt, Instr.sureAddr, Sem.run_bind, Sem.run_pure, Result.andThen_ok]
    cases hq : P.info? ty with
    | none => simp [hq] at hi
    | some i =>
      have hs : L.length = i.size := by simp [hq] at hi; omega
      simp only [Nat.add_zero] at this
      simp [storeVar, sizeOf, typeInfo, hq, hv, hs, this]
  have : op.wp P a w K Q := by
    unfold Oper.wp execOp
    simp only [ho, hx, hy, Sem.run_bind, hst, Result.andThen_ok, Sem.run_pure]
    exact hK _ _ (h _ k1 k2)
  exact this
theorem grown_below {w w' : World} {b N : Nat} (h : w.grownBy w' (some b)) (hN : N ≤ w.heap.size) (hb : N ≤ b) : Below N w w' :=
  (Below.refl _ _).grown h hN (fun q hq => by cases hq; exact hb)
end Rg
end Go.Proofs.YtiogfdkdhfmamaaGreatDoor
