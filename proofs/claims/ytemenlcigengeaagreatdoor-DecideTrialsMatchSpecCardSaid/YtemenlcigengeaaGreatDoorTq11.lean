/- The stable sort's merge, over any program that holds the bodies. -/
import Derived.Test.YtemenlcigengeaaGreatDoorTq10
namespace Go.Proofs.YtemenlcigengeaaGreatDoor
namespace St
open Go.Shelf Go.RowKit Go.Lib Go.Sort
section
variable {α : Type} [Inhabited α] {lt : α → α → Bool}
theorem find_left (hS : SWO lt) {d : Array α} {a m b mid c : Nat} (hL : SortedIn lt a m d) (hR : SortedIn lt m b d) {lo : Nat} (h1 : a ≤ lo) (h2 : c < m) (h3 : m + c + 1 ≤ mid + m) (h4 : mid + m ≤ b + lo) (hc : lt d[mid + m - 1 - c]! d[c]! = false) : ∀ x, lo ≤ x → x < c + 1 → lt d[mid + m - 1 - x]! d[x]! = false := fun x hx hxc =>
  hS.ntrans _ _ _ (hS.ntrans _ _ _ (sorted_le hS hR (i := mid + m - 1 - c) (j := mid + m - 1 - x) (by omega) (by omega) (by omega)) hc) (sorted_le hS hL (by omega) (by omega) h2)
theorem find_right (hS : SWO lt) {d : Array α} {a m b mid c : Nat} (hL : SortedIn lt a m d) (hR : SortedIn lt m b d) {hi : Nat} (h1 : a ≤ c) (h2 : hi ≤ m) (h3 : hi ≤ mid) (h4 : mid + m ≤ b + c) (hc : lt d[mid + m - 1 - c]! d[c]! = true) : ∀ x, c ≤ x → x < hi → lt d[mid + m - 1 - x]! d[x]! = true := fun x hx hxh =>
  lt_le hS (le_lt hS (sorted_le hS hR (i := mid + m - 1 - x) (j := mid + m - 1 - c) (by omega) (by omega) (by omega)) hc) (sorted_le hS hL h1 hx (by omega))
theorem found_hi {d : Array α} {a m b mid st : Nat} (HM : mid = (a + b) / 2) (hm : mid < m) (h1 : mid + m - b ≤ st) (h2 : st ≤ mid) (hl : ∀ x, mid + m - b ≤ x → x < st → lt d[mid + m - 1 - x]! d[x]! = false) (hr : ∀ x, st ≤ x → x < mid → lt d[mid + m - 1 - x]! d[x]! = true) : Found lt d a m b st := by
  subst HM
  have e1 : s0 a m b = (a + b) / 2 + m - b := if_pos hm
  have e2 : r0 a m b = (a + b) / 2 := if_pos hm
  exact ⟨by rw [e1]; exact h1, by rw [e2]; exact h2, by rw [e1]; exact hl, by rw [e2]; exact hr⟩
theorem found_lo {d : Array α} {a m b mid st : Nat} (HM : mid = (a + b) / 2) (hm : ¬ mid < m) (h1 : a ≤ st) (h2 : st ≤ m) (hl : ∀ x, a ≤ x → x < st → lt d[mid + m - 1 - x]! d[x]! = false) (hr : ∀ x, st ≤ x → x < m → lt d[mid + m - 1 - x]! d[x]! = true) : Found lt d a m b st := by
  subst HM
  have e1 : s0 a m b = a := if_neg hm
  have e2 : r0 a m b = m := if_neg hm
  exact ⟨by rw [e1]; exact h1, by rw [e2]; exact h2, by rw [e1]; exact hl, by rw [e2]; exact hr⟩
theorem half_rot (hS : SWO lt) {d d1 : Array α} {a m b mid S E : Nat} (h1 : a < m) (h2 : m < b) (hb : b ≤ d.size) (HM : mid = (a + b) / 2) (HE : E = mid + m - S) (hF : Found lt d a m b S) (hL : SortedIn lt a m d) (hR : SortedIn lt m b d)
    (h : Rot m (m - S) (E - m) d d1 ∨ (d1 = d ∧ ¬ (S < m ∧ m < E))) : Halves lt d1 a mid b S E ∧ PermIn a b d d1 := by
  subst HM HE
  obtain ⟨b1, b2, b3, b4, b5, b6⟩ := bounds h1 h2 hF.lo hF.hi
  rcases h with ⟨hp, hd⟩ | ⟨rfl, hn⟩
  · refine ⟨halves hS h1 h2 hF hL hR fun x => ?_, permIn_mono _ _ _ _ _ _ (by omega) (by omega) hb hp⟩
    rw [hd]
    (repeat' split) <;> first | rfl | omega | (congr 1; omega)
  · refine ⟨halves hS h1 h2 hF hL hR fun x => ?_, permIn_refl _ _ _⟩
    (repeat' split) <;> first | rfl | omega | (congr 1; omega)
theorem sym_fin {d d1 d2 d3 : Array α} {a b mid S E : Nat} (hb : b ≤ d.size) (hm : a ≤ mid) (hmb : mid ≤ b) (hH : Halves lt d1 a mid b S E ∧ PermIn a b d d1) (h2 : PermIn a mid d1 d2 ∧ SortedIn lt a mid d2) (h3 : PermIn mid b d2 d3 ∧ SortedIn lt mid b d3) : PermIn a b d d3 ∧ SortedIn lt a b d3 := by
  have s1 : d1.size = d.size := hH.2.1
  have s2 : d2.size = d1.size := h2.1.1
  refine ⟨permIn_trans _ _ _ _ _ hH.2 (permIn_trans _ _ _ _ _ (permIn_mono _ _ _ _ _ _ (Nat.le_refl _) hmb (by omega) h2.1) (permIn_mono _ _ _ _ _ _ hm (Nat.le_refl _) (by omega) h3.1)), ?_⟩
  exact join_halves (by omega) hm hmb hH.1.across h2.1 h2.2 h3.1 h3.2
end
variable {P : Program} {α : Type} [Inhabited α]
/-- What is merged: each of [m, b) stands to each of [a, m) as Q says. -/
def Cr (Q : α → α → Prop) (a m b : Nat) (d : Array α) : Prop := ∀ x y, m ≤ x → x < b → a ≤ y → y < m → Q d[x]! d[y]!
theorem cr_rot {Q : α → α → Prop} {d d1 : Array α} {a m b mid S E : Nat} (HE : E = mid + m - S) (b1 : a ≤ S) (b2 : S ≤ m) (b3 : S ≤ mid) (b4 : m ≤ E) (b5 : mid ≤ E) (b6 : E ≤ b) (hX : Cr Q a m b d)
    (h : Rot m (m - S) (E - m) d d1 ∨ (d1 = d ∧ ¬ (S < m ∧ m < E))) : Cr Q a S mid d1 ∧ Cr Q mid E b d1 := by
  rcases h with ⟨_, hd⟩ | ⟨rfl, hn⟩
  · refine ⟨fun x y h1 h2 h3 h4 => ?_, fun x y h1 h2 h3 h4 => ?_⟩
    · rw [hd x, hd y, if_pos (by omega), if_neg (by omega), if_neg (by omega)]
      exact hX _ _ (by omega) (by omega) h3 (by omega)
    · rw [hd x, hd y, if_neg (by omega), if_neg (by omega), if_neg (by omega), if_pos (by omega)]
      exact hX _ _ (by omega) h2 (by omega) (by omega)
  · exact ⟨fun x y h1 h2 h3 h4 => hX x y (by omega) (by omega) h3 (by omega), fun x y h1 h2 h3 h4 => hX x y (by omega) h2 (by omega) (by omega)⟩
/-- What symMerge does on [a, m) and [m, b). -/
def Sym (P : Program) (enc : α → List Value) (k : Nat) (lt : α → α → Bool) (Q : α → α → Prop) (g : Nat) (cb : Array Value) (blk off cap size : Nat) (w0 : World) (a m b : Nat) : Prop := ∀ (d : Array α) (w : World), d.size = size → SWK enc k w0 blk off d w → SortedIn lt a m d → SortedIn lt m b d → Cr Q a m b d →
  Calls P 91 #[.slice (some ⟨blk, off, none⟩) size cap, .int .i64 a, .int .i64 m, .int .i64 b, .func (.func g) #[] cb] w fun e w' => e = .returned (.tuple #[]) ∧ ∃ d', PermIn a b d d' ∧ SortedIn lt a b d' ∧ SWK enc k w0 blk off d' w'
set_option maxHeartbeats 8000000 in
set_option maxRecDepth 1000000 in
theorem symHi (k : Nat) (L : Lay P k) (F94 : P.funcs[137]? = some Tryz.f137) (e94 : ∀ args w, (callFunc 137 args).run P w = .ok (.enter 137 args) w) (F92 : P.funcs[114]? = some Tryz.f114) (e92 : ∀ args w, (callFunc 114 args).run P w = .ok (.enter 114 args) w) (FG : P.funcs[91]? = some Tryz.f91) (e85 : ∀ args w, (callFunc 91 args).run P w = .ok (.enter 91 args) w) (enc : α → List Value) (cf : α → α → Int) {lt : α → α → Bool} {Q : α → α → Prop} (hQ : ∀ x y, Q x y → lt x y = ltOf cf x y) (hS : SWO lt) (g : Nat) (cb : Array Value) (blk off cap a m b : Nat) (d0 d : Array α) (w0 w : World)
    (eg : ∀ args w, (callFunc g args).run P w = .ok (.enter g args) w) (hcmp : CmpLays P g cb enc k cf blk off d.size w0)
    (R : RowK enc k w0 blk off d0) (hs : d0.size = d.size) (S : SWK enc k w0 blk off d w) (ham : a + 1 < m) (hmb : m + 1 < b) (hb : b ≤ d.size) (hsz : d.size < 4611686018427387904) (hL : SortedIn lt a m d) (hR : SortedIn lt m b d) (hX : Cr Q a m b d) (hm : (a + b) / 2 < m)
    (IH : ∀ a' m' b', b' - a' < b - a → a' < m' → m' < b' → b' ≤ d.size → Sym P enc k lt Q g cb blk off cap d.size w0 a' m' b') :
    Calls P 91 #[.slice (some ⟨blk, off, none⟩) d.size cap, .int .i64 a, .int .i64 m, .int .i64 b, .func (.func g) #[] cb] w fun e w' => e = .returned (.tuple #[]) ∧ ∃ d', PermIn a b d d' ∧ SortedIn lt a b d' ∧ SWK enc k w0 blk off d' w' := by
  have mixed := L.mixed; have t0 := L.t0; have a0 := L.a0; have z0 := L.z0; have v0 := L.v0; have t3 := L.t3; have a3 := L.a3; have z3 := L.z3; have v3 := L.v3; have t4 := L.t4; have a4 := L.a4; have z4 := L.z4; have v4 := L.v4; have tU := L.tU; have aU := L.aU; have zU := L.zU; have vU := L.vU; have tS := L.tS; have aS := L.aS; have zS := L.zS; have vS := L.vS; have tF := L.tF; have aF := L.aF; have zF := L.zF; have vF := L.vF; have aE := L.aE; have zE := L.zE
  have HC : Aside _ := hcmp
  have S0 : Aside (SWK enc k w0 blk off d w) := S
  have SW : Aside (SWO lt) := hS
  have SL : Aside _ := hL
  have SR : Aside _ := hR
  have IHA : Aside _ := IH
  have HX : Aside _ := hX
  have HQ : Aside _ := hQ
  clear S hS hL hR hcmp IH hX hQ
  have e2 : ¬ (m : Int) - (a : Int) = 1 := by omega
  have e3 : (((m : Int) - (a : Int)) == 1) = false := by rw [beq_eq_false_iff_ne]; exact e2
  have e4 : ¬ (b : Int) - (m : Int) = 1 := by omega
  have e5 : (((b : Int) - (m : Int)) == 1) = false := by rw [beq_eq_false_iff_ne]; exact e4
  obtain ⟨mid, hmid⟩ : ∃ mid, mid = (a + b) / 2 := ⟨_, rfl⟩
  have emid : ((a : Int) + (b : Int)) / 2 = (mid : Int) := by omega
  have f1 : 2 * mid ≤ a + b := by omega
  have f2 : a + b ≤ 2 * mid + 1 := by omega
  have HM : Hid (mid = (a + b) / 2) := hmid
  rw [← hmid] at hm
  have hmz : (mid : Int) < (m : Int) := by omega
  clear hmid
  obtain ⟨pp, hpp⟩ : ∃ p, p = mid + m - 1 := ⟨_, rfl⟩
  have HP : Hid (pp = mid + m - 1) := hpp
  have epp : (mid : Int) + (m : Int) - 1 = (pp : Int) := by omega
  clear hpp
  go_enter FG, Tryz.ntmps91
  go_wp2_with fail
  go_loopg [20, 21] (b - a) (fun kx s20 s21 wr => ∃ (st r : Nat), s20 = .int .i64 st ∧ s21 = .int .i64 r ∧ mid + m - b ≤ st ∧ st ≤ r ∧ r ≤ mid ∧ r - st ≤ kx ∧ Aside (SWK enc k w0 blk off d wr) ∧ Hid (∀ x, mid + m - b ≤ x → x < st → lt d[mid + m - 1 - x]! d[x]! = false) ∧ Hid (∀ x, r ≤ x → x < mid → lt d[mid + m - 1 - x]! d[x]! = true))
  case atStart => exact ⟨mid + m - b, mid, by congr 1; omega, rfl, Nat.le_refl _, by omega, Nat.le_refl _, by omega, S0, fun x h1 h2 => by omega, fun x h1 h2 => by omega⟩
  case round =>
    clear S0
    obtain ⟨st, r, rfl, rfl, hst, hsr, hr, hkx, S1, HL, HR⟩ := hrel
    by_cases hij : st < r
    · have hijz : (st : Int) < (r : Int) := by omega
      obtain ⟨h, hh⟩ : ∃ h, h = (st + r) / 2 := ⟨_, rfl⟩
      have hh1 : st ≤ h := by omega
      have hh2 : h < r := by omega
      have ehz : ((st : Int) + (r : Int)) / 2 = (h : Int) := by omega
      clear hh
      obtain ⟨u, hu⟩ : ∃ u, u = mid + m - 1 - h := ⟨_, rfl⟩
      have hub : u < d.size := by omega
      have HB : Hid (m ≤ u ∧ u < b) := ⟨by omega, by omega⟩
      have euz : (pp : Int) - (h : Int) = (u : Int) := by have := HP.out; omega
      have HU : Hid (u = mid + m - 1 - h) := hu
      clear hu
      go_wp2_with fail
      clear ehz
      cases hG : lt d[u]! d[h]! with
      | true =>
        have HR2 : Hid (∀ x, h ≤ x → x < mid → lt d[mid + m - 1 - x]! d[x]! = true) := find_right SW.out SL.out SR.out (by omega) (by omega) (by omega) (by omega) (by rw [← HU.out]; exact hG)
        have ea24 : (((u : Int) : Int)).toNat = u := by omega
        have pa24 : (0 : Int) ≤ (u : Int) := by omega
        have ba24 : (u : Int) < (d.size : Int) := by omega
        have ra24 : IntKind.i64.wrap ((u : Int)) = (u : Int) := by rw [IntKind.wrap_i64]; omega
        have ec24 : (((h : Int) : Int)).toNat = h := by omega
        have pc24 : (0 : Int) ≤ (h : Int) := by omega
        have bc24 : (h : Int) < (d.size : Int) := by omega
        have rc24 : IntKind.i64.wrap ((h : Int)) = (h : Int) := by rw [IntKind.wrap_i64]; omega
        obtain ⟨x24, hx24⟩ : ∃ x, x = d[u]! := ⟨_, rfl⟩
        obtain ⟨y24, hy24⟩ : ∃ x, x = d[h]! := ⟨_, rfl⟩
        have l24a := S1.out.ld R (by omega) P (u) (by omega)
        have l24b := S1.out.ld R (by omega) P (h) (by omega)
        rw [← hx24] at l24a
        rw [← hy24] at l24b
        have hc24 := S1.out.cmp HC.out (by omega) x24 y24
        have hv24 : cf x24 y24 < 0 := by rw [hx24, hy24]; exact of_decide_eq_true ((HQ.out _ _ (HX.out u h HB.out.1 HB.out.2 (by omega) (by omega))).symm.trans hG)
        have hd24 : decide (cf x24 y24 < 0) = true := decide_eq_true hv24
        clear hx24 hy24
        go_wp2_with fail
        go_quiet_grown (first | (go_at_fn g; refine Calls.grown_of (hc24 _ _)))
        have S2 : Aside (SWK enc k w0 blk off d (grow (wr.drewN nq) osq)) := S1.out.grown nq osq
        clear l24a l24b hc24 S1
        generalize grow (wr.drewN nq) osq = w2 at S2 ⊢
        clear nq osq
        go_wp2
        go_roundg (h - st)
        case measure => omega
        case rel => exact ⟨st, h, rfl, rfl, hst, hh1, by omega, Nat.le_refl _, S2, HL, HR2⟩
      | false =>
        have HL2 : Hid (∀ x, mid + m - b ≤ x → x < h + 1 → lt d[mid + m - 1 - x]! d[x]! = false) := find_left SW.out SL.out SR.out (by omega) (by omega) (by omega) (by omega) (by rw [← HU.out]; exact hG)
        have ea25 : (((u : Int) : Int)).toNat = u := by omega
        have pa25 : (0 : Int) ≤ (u : Int) := by omega
        have ba25 : (u : Int) < (d.size : Int) := by omega
        have ra25 : IntKind.i64.wrap ((u : Int)) = (u : Int) := by rw [IntKind.wrap_i64]; omega
        have ec25 : (((h : Int) : Int)).toNat = h := by omega
        have pc25 : (0 : Int) ≤ (h : Int) := by omega
        have bc25 : (h : Int) < (d.size : Int) := by omega
        have rc25 : IntKind.i64.wrap ((h : Int)) = (h : Int) := by rw [IntKind.wrap_i64]; omega
        obtain ⟨x25, hx25⟩ : ∃ x, x = d[u]! := ⟨_, rfl⟩
        obtain ⟨y25, hy25⟩ : ∃ x, x = d[h]! := ⟨_, rfl⟩
        have l25a := S1.out.ld R (by omega) P (u) (by omega)
        have l25b := S1.out.ld R (by omega) P (h) (by omega)
        rw [← hx25] at l25a
        rw [← hy25] at l25b
        have hc25 := S1.out.cmp HC.out (by omega) x25 y25
        have hv25 : ¬ cf x25 y25 < 0 := by rw [hx25, hy25]; exact of_decide_eq_false ((HQ.out _ _ (HX.out u h HB.out.1 HB.out.2 (by omega) (by omega))).symm.trans hG)
        have hd25 : decide (cf x25 y25 < 0) = false := decide_eq_false hv25
        clear hx25 hy25
        go_wp2_with fail
        go_quiet_grown (first | (go_at_fn g; refine Calls.grown_of (hc25 _ _)))
        have S2 : Aside (SWK enc k w0 blk off d (grow (wr.drewN nq) osq)) := S1.out.grown nq osq
        clear l25a l25b hc25 S1
        generalize grow (wr.drewN nq) osq = w2 at S2 ⊢
        clear nq osq
        go_wp2
        go_roundg (r - (h + 1))
        case measure => omega
        case rel => exact ⟨h + 1, r, by go_num, rfl, by omega, by omega, hr, Nat.le_refl _, S2, HL2, HR⟩
    · have hijz : ¬ (st : Int) < (r : Int) := by omega
      obtain rfl : st = r := by omega
      have FND : Aside (Found lt d a m b st) := found_hi HM.out hm hst hr HL.out HR.out
      obtain ⟨E, hE⟩ : ∃ E, E = mid + m - st := ⟨_, rfl⟩
      have HE : Hid (E = mid + m - st) := hE
      have eE : (mid : Int) + (m : Int) - (st : Int) = (E : Int) := by omega
      have bb : a ≤ st ∧ st ≤ m ∧ st ≤ mid ∧ m ≤ E ∧ mid ≤ E ∧ E ≤ b := by omega
      obtain ⟨b1, b2, b3, b4, b5, b6⟩ := bb
      clear HL HR
      have HAL : Aside (∀ d1, Rot m (m - st) (E - m) d d1 ∨ (d1 = d ∧ ¬ (st < m ∧ m < E)) → (Halves lt d1 a mid b st E ∧ PermIn a b d d1) ∧ Cr Q a st mid d1 ∧ Cr Q mid E b d1) := fun d1 h => ⟨half_rot SW.out (by omega) (by omega) hb HM.out HE.out FND.out SL.out SR.out h, cr_rot HE.out b1 b2 b3 b4 b5 b6 HX.out h⟩
      clear FND hE
      by_cases p1 : st < m
      · have p1z : (st : Int) < (m : Int) := by omega
        by_cases p2 : m < E
        · have p2z : (m : Int) < (E : Int) := by omega
          by_cases q1 : a < st
          · have q1z : (a : Int) < (st : Int) := by omega
            by_cases q2 : st < mid
            · have q2z : (st : Int) < (mid : Int) := by omega
              by_cases s1 : mid < E
              · have s1z : (mid : Int) < (E : Int) := by omega
                by_cases s2 : E < b
                · have s2z : (E : Int) < (b : Int) := by omega
                  have hc1 := rotate (P := P) k L F94 e94 F92 enc g cb blk off cap st m E d0 d w0 wr R (by omega) S1.out (by omega) (by omega) (by omega) (by omega)
                  clear S1
                  go_wp2_with (go_at_fn 114; refine hc1.mono ?_; rintro e w1 ⟨rfl, d1, hro, S2⟩)
                  have hHX := HAL.out d1 (Or.inl hro)
                  have HX1 : Aside _ := hHX.2.1
                  have HX2 : Aside _ := hHX.2.2
                  have hH := hHX.1
                  clear hHX
                  have z1 : d1.size = d.size := hH.2.1
                  have hc2 := IHA.out a st mid (by omega) (by omega) (by omega) (by omega) d1 _ z1 S2 hH.1.h1 hH.1.h2 HX1.out
                  have HH : Aside _ := hH
                  clear hH
                  go_wp2_with (go_at_fn 91; refine hc2.mono ?_; rintro e w2 ⟨rfl, d2, hp2, hs2, S3⟩)
                  have K2 : Aside (PermIn a mid d1 d2 ∧ SortedIn lt a mid d2) := ⟨hp2, hs2⟩
                  have z2 : d2.size = d.size := by first | exact K2.out.1.1.trans z1 | exact K2.out.1.1
                  have kp : ∀ x, mid ≤ x → d2[x]! = d1[x]! := fun x hx => K2.out.1.2.1 x (by omega)
                  have t3 : SortedIn lt mid E d2 := fun x y h1 h2 h3 => by rw [kp x (by omega), kp y (by omega)]; exact HH.out.1.h3 x y h1 h2 h3
                  have t4 : SortedIn lt E b d2 := fun x y h1 h2 h3 => by rw [kp x (by omega), kp y (by omega)]; exact HH.out.1.h4 x y h1 h2 h3
                  have t5 : Cr Q mid E b d2 := fun x y h1 h2 h3 h4 => by rw [kp x (by omega), kp y (by omega)]; exact HX2.out x y h1 h2 h3 h4
                  clear kp
                  have hc3 := IHA.out mid E b (by omega) (by omega) (by omega) (by omega) d2 _ z2 S3 t3 t4 t5
                  go_wp2_with (go_at_fn 91; refine hc3.mono ?_; rintro e w3 ⟨rfl, d3, hp3, hs3, S4⟩)
                  have K3 : Aside (PermIn mid b d2 d3 ∧ SortedIn lt mid b d3) := ⟨hp3, hs3⟩
                  have FF := sym_fin hb (by omega) (by omega) HH.out K2.out K3.out
                  first | (go_end0; exact ⟨rfl, _, FF.1, FF.2, S4⟩) | ((try simp only [Exit.inBlock, Exit.then]); refine bodyPost_ret (results_none rfl _ _ _) rfl ?_; exact ⟨rfl, _, FF.1, FF.2, S4⟩)
                · have s2z : ¬ (E : Int) < (b : Int) := by omega
                  have hc1 := rotate (P := P) k L F94 e94 F92 enc g cb blk off cap st m E d0 d w0 wr R (by omega) S1.out (by omega) (by omega) (by omega) (by omega)
                  clear S1
                  go_wp2_with (go_at_fn 114; refine hc1.mono ?_; rintro e w1 ⟨rfl, d1, hro, S2⟩)
                  have hHX := HAL.out d1 (Or.inl hro)
                  have HX1 : Aside _ := hHX.2.1
                  have HX2 : Aside _ := hHX.2.2
                  have hH := hHX.1
                  clear hHX
                  have z1 : d1.size = d.size := hH.2.1
                  have hc2 := IHA.out a st mid (by omega) (by omega) (by omega) (by omega) d1 _ z1 S2 hH.1.h1 hH.1.h2 HX1.out
                  have HH : Aside _ := hH
                  clear hH
                  go_wp2_with (go_at_fn 91; refine hc2.mono ?_; rintro e w2 ⟨rfl, d2, hp2, hs2, S3⟩)
                  have K2 : Aside (PermIn a mid d1 d2 ∧ SortedIn lt a mid d2) := ⟨hp2, hs2⟩
                  have z2 : d2.size = d.size := by first | exact K2.out.1.1.trans z1 | exact K2.out.1.1
                  have kp : ∀ x, mid ≤ x → d2[x]! = d1[x]! := fun x hx => K2.out.1.2.1 x (by omega)
                  have t3 : SortedIn lt mid E d2 := fun x y h1 h2 h3 => by rw [kp x (by omega), kp y (by omega)]; exact HH.out.1.h3 x y h1 h2 h3
                  have t4 : SortedIn lt E b d2 := fun x y h1 h2 h3 => by rw [kp x (by omega), kp y (by omega)]; exact HH.out.1.h4 x y h1 h2 h3
                  clear kp
                  have eq3 : E = b := by omega
                  have K3 : Aside (PermIn mid b d2 d2 ∧ SortedIn lt mid b d2) := ⟨permIn_refl _ _ _, by first | (rw [← eq3] at t3; exact t3) | (rw [eq3] at t3; exact t3)⟩
                  clear eq3
                  try go_wp2
                  have FF := sym_fin hb (by omega) (by omega) HH.out K2.out K3.out
                  first | (go_end0; exact ⟨rfl, _, FF.1, FF.2, S3⟩) | ((try simp only [Exit.inBlock, Exit.then]); refine bodyPost_ret (results_none rfl _ _ _) rfl ?_; exact ⟨rfl, _, FF.1, FF.2, S3⟩)
              · have s1z : ¬ (mid : Int) < (E : Int) := by omega
                have hc1 := rotate (P := P) k L F94 e94 F92 enc g cb blk off cap st m E d0 d w0 wr R (by omega) S1.out (by omega) (by omega) (by omega) (by omega)
                clear S1
                go_wp2_with (go_at_fn 114; refine hc1.mono ?_; rintro e w1 ⟨rfl, d1, hro, S2⟩)
                have hHX := HAL.out d1 (Or.inl hro)
                have HX1 : Aside _ := hHX.2.1
                have HX2 : Aside _ := hHX.2.2
                have hH := hHX.1
                clear hHX
                have z1 : d1.size = d.size := hH.2.1
                have hc2 := IHA.out a st mid (by omega) (by omega) (by omega) (by omega) d1 _ z1 S2 hH.1.h1 hH.1.h2 HX1.out
                have HH : Aside _ := hH
                clear hH
                go_wp2_with (go_at_fn 91; refine hc2.mono ?_; rintro e w2 ⟨rfl, d2, hp2, hs2, S3⟩)
                have K2 : Aside (PermIn a mid d1 d2 ∧ SortedIn lt a mid d2) := ⟨hp2, hs2⟩
                have z2 : d2.size = d.size := by first | exact K2.out.1.1.trans z1 | exact K2.out.1.1
                have kp : ∀ x, mid ≤ x → d2[x]! = d1[x]! := fun x hx => K2.out.1.2.1 x (by omega)
                have t3 : SortedIn lt mid E d2 := fun x y h1 h2 h3 => by rw [kp x (by omega), kp y (by omega)]; exact HH.out.1.h3 x y h1 h2 h3
                have t4 : SortedIn lt E b d2 := fun x y h1 h2 h3 => by rw [kp x (by omega), kp y (by omega)]; exact HH.out.1.h4 x y h1 h2 h3
                clear kp
                have eq3 : mid = E := by omega
                have K3 : Aside (PermIn mid b d2 d2 ∧ SortedIn lt mid b d2) := ⟨permIn_refl _ _ _, by first | (rw [← eq3] at t4; exact t4) | (rw [eq3] at t4; exact t4)⟩
                clear eq3
                try go_wp2
                have FF := sym_fin hb (by omega) (by omega) HH.out K2.out K3.out
                first | (go_end0; exact ⟨rfl, _, FF.1, FF.2, S3⟩) | ((try simp only [Exit.inBlock, Exit.then]); refine bodyPost_ret (results_none rfl _ _ _) rfl ?_; exact ⟨rfl, _, FF.1, FF.2, S3⟩)
            · have q2z : ¬ (st : Int) < (mid : Int) := by omega
              by_cases s1 : mid < E
              · have s1z : (mid : Int) < (E : Int) := by omega
                by_cases s2 : E < b
                · have s2z : (E : Int) < (b : Int) := by omega
                  have hc1 := rotate (P := P) k L F94 e94 F92 enc g cb blk off cap st m E d0 d w0 wr R (by omega) S1.out (by omega) (by omega) (by omega) (by omega)
                  clear S1
                  go_wp2_with (go_at_fn 114; refine hc1.mono ?_; rintro e w1 ⟨rfl, d1, hro, S2⟩)
                  have hHX := HAL.out d1 (Or.inl hro)
                  have HX1 : Aside _ := hHX.2.1
                  have HX2 : Aside _ := hHX.2.2
                  have hH := hHX.1
                  clear hHX
                  have z1 : d1.size = d.size := hH.2.1
                  have eq2 : st = mid := by omega
                  have k2 := hH.1.h1
                  first | rw [← eq2] at k2 | rw [eq2] at k2
                  clear eq2
                  have K2 : Aside (PermIn a mid d1 d1 ∧ SortedIn lt a mid d1) := ⟨permIn_refl _ _ _, k2⟩
                  have HH : Aside _ := hH
                  clear hH
                  have z2 : d1.size = d.size := by first | exact K2.out.1.1.trans z1 | exact K2.out.1.1
                  have kp : ∀ x, mid ≤ x → d1[x]! = d1[x]! := fun x hx => K2.out.1.2.1 x (by omega)
                  have t3 : SortedIn lt mid E d1 := fun x y h1 h2 h3 => by rw [kp x (by omega), kp y (by omega)]; exact HH.out.1.h3 x y h1 h2 h3
                  have t4 : SortedIn lt E b d1 := fun x y h1 h2 h3 => by rw [kp x (by omega), kp y (by omega)]; exact HH.out.1.h4 x y h1 h2 h3
                  have t5 : Cr Q mid E b d1 := fun x y h1 h2 h3 h4 => by rw [kp x (by omega), kp y (by omega)]; exact HX2.out x y h1 h2 h3 h4
                  clear kp
                  have hc3 := IHA.out mid E b (by omega) (by omega) (by omega) (by omega) d1 _ z2 S2 t3 t4 t5
                  go_wp2_with (go_at_fn 91; refine hc3.mono ?_; rintro e w3 ⟨rfl, d3, hp3, hs3, S4⟩)
                  have K3 : Aside (PermIn mid b d1 d3 ∧ SortedIn lt mid b d3) := ⟨hp3, hs3⟩
                  have FF := sym_fin hb (by omega) (by omega) HH.out K2.out K3.out
                  first | (go_end0; exact ⟨rfl, _, FF.1, FF.2, S4⟩) | ((try simp only [Exit.inBlock, Exit.then]); refine bodyPost_ret (results_none rfl _ _ _) rfl ?_; exact ⟨rfl, _, FF.1, FF.2, S4⟩)
                · have s2z : ¬ (E : Int) < (b : Int) := by omega
                  have hc1 := rotate (P := P) k L F94 e94 F92 enc g cb blk off cap st m E d0 d w0 wr R (by omega) S1.out (by omega) (by omega) (by omega) (by omega)
                  clear S1
                  go_wp2_with (go_at_fn 114; refine hc1.mono ?_; rintro e w1 ⟨rfl, d1, hro, S2⟩)
                  have hHX := HAL.out d1 (Or.inl hro)
                  have HX1 : Aside _ := hHX.2.1
                  have HX2 : Aside _ := hHX.2.2
                  have hH := hHX.1
                  clear hHX
                  have z1 : d1.size = d.size := hH.2.1
                  have eq2 : st = mid := by omega
                  have k2 := hH.1.h1
                  first | rw [← eq2] at k2 | rw [eq2] at k2
                  clear eq2
                  have K2 : Aside (PermIn a mid d1 d1 ∧ SortedIn lt a mid d1) := ⟨permIn_refl _ _ _, k2⟩
                  have HH : Aside _ := hH
                  clear hH
                  have z2 : d1.size = d.size := by first | exact K2.out.1.1.trans z1 | exact K2.out.1.1
                  have kp : ∀ x, mid ≤ x → d1[x]! = d1[x]! := fun x hx => K2.out.1.2.1 x (by omega)
                  have t3 : SortedIn lt mid E d1 := fun x y h1 h2 h3 => by rw [kp x (by omega), kp y (by omega)]; exact HH.out.1.h3 x y h1 h2 h3
                  have t4 : SortedIn lt E b d1 := fun x y h1 h2 h3 => by rw [kp x (by omega), kp y (by omega)]; exact HH.out.1.h4 x y h1 h2 h3
                  clear kp
                  have eq3 : E = b := by omega
                  have K3 : Aside (PermIn mid b d1 d1 ∧ SortedIn lt mid b d1) := ⟨permIn_refl _ _ _, by first | (rw [← eq3] at t3; exact t3) | (rw [eq3] at t3; exact t3)⟩
                  clear eq3
                  try go_wp2
                  have FF := sym_fin hb (by omega) (by omega) HH.out K2.out K3.out
                  first | (go_end0; exact ⟨rfl, _, FF.1, FF.2, S2⟩) | ((try simp only [Exit.inBlock, Exit.then]); refine bodyPost_ret (results_none rfl _ _ _) rfl ?_; exact ⟨rfl, _, FF.1, FF.2, S2⟩)
              · have s1z : ¬ (mid : Int) < (E : Int) := by omega
                have hc1 := rotate (P := P) k L F94 e94 F92 enc g cb blk off cap st m E d0 d w0 wr R (by omega) S1.out (by omega) (by omega) (by omega) (by omega)
                clear S1
                go_wp2_with (go_at_fn 114; refine hc1.mono ?_; rintro e w1 ⟨rfl, d1, hro, S2⟩)
                have hHX := HAL.out d1 (Or.inl hro)
                have HX1 : Aside _ := hHX.2.1
                have HX2 : Aside _ := hHX.2.2
                have hH := hHX.1
                clear hHX
                have z1 : d1.size = d.size := hH.2.1
                have eq2 : st = mid := by omega
                have k2 := hH.1.h1
                first | rw [← eq2] at k2 | rw [eq2] at k2
                clear eq2
                have K2 : Aside (PermIn a mid d1 d1 ∧ SortedIn lt a mid d1) := ⟨permIn_refl _ _ _, k2⟩
                have HH : Aside _ := hH
                clear hH
                have z2 : d1.size = d.size := by first | exact K2.out.1.1.trans z1 | exact K2.out.1.1
                have kp : ∀ x, mid ≤ x → d1[x]! = d1[x]! := fun x hx => K2.out.1.2.1 x (by omega)
                have t3 : SortedIn lt mid E d1 := fun x y h1 h2 h3 => by rw [kp x (by omega), kp y (by omega)]; exact HH.out.1.h3 x y h1 h2 h3
                have t4 : SortedIn lt E b d1 := fun x y h1 h2 h3 => by rw [kp x (by omega), kp y (by omega)]; exact HH.out.1.h4 x y h1 h2 h3
                clear kp
                have eq3 : mid = E := by omega
                have K3 : Aside (PermIn mid b d1 d1 ∧ SortedIn lt mid b d1) := ⟨permIn_refl _ _ _, by first | (rw [← eq3] at t4; exact t4) | (rw [eq3] at t4; exact t4)⟩
                clear eq3
                try go_wp2
                have FF := sym_fin hb (by omega) (by omega) HH.out K2.out K3.out
                first | (go_end0; exact ⟨rfl, _, FF.1, FF.2, S2⟩) | ((try simp only [Exit.inBlock, Exit.then]); refine bodyPost_ret (results_none rfl _ _ _) rfl ?_; exact ⟨rfl, _, FF.1, FF.2, S2⟩)
          · have q1z : ¬ (a : Int) < (st : Int) := by omega
            by_cases s1 : mid < E
            · have s1z : (mid : Int) < (E : Int) := by omega
              by_cases s2 : E < b
              · have s2z : (E : Int) < (b : Int) := by omega
                have hc1 := rotate (P := P) k L F94 e94 F92 enc g cb blk off cap st m E d0 d w0 wr R (by omega) S1.out (by omega) (by omega) (by omega) (by omega)
                clear S1
                go_wp2_with (go_at_fn 114; refine hc1.mono ?_; rintro e w1 ⟨rfl, d1, hro, S2⟩)
                have hHX := HAL.out d1 (Or.inl hro)
                have HX1 : Aside _ := hHX.2.1
                have HX2 : Aside _ := hHX.2.2
                have hH := hHX.1
                clear hHX
                have z1 : d1.size = d.size := hH.2.1
                have eq2 : a = st := by omega
                have k2 := hH.1.h2
                first | rw [← eq2] at k2 | rw [eq2] at k2
                clear eq2
                have K2 : Aside (PermIn a mid d1 d1 ∧ SortedIn lt a mid d1) := ⟨permIn_refl _ _ _, k2⟩
                have HH : Aside _ := hH
                clear hH
                have z2 : d1.size = d.size := by first | exact K2.out.1.1.trans z1 | exact K2.out.1.1
                have kp : ∀ x, mid ≤ x → d1[x]! = d1[x]! := fun x hx => K2.out.1.2.1 x (by omega)
                have t3 : SortedIn lt mid E d1 := fun x y h1 h2 h3 => by rw [kp x (by omega), kp y (by omega)]; exact HH.out.1.h3 x y h1 h2 h3
                have t4 : SortedIn lt E b d1 := fun x y h1 h2 h3 => by rw [kp x (by omega), kp y (by omega)]; exact HH.out.1.h4 x y h1 h2 h3
                have t5 : Cr Q mid E b d1 := fun x y h1 h2 h3 h4 => by rw [kp x (by omega), kp y (by omega)]; exact HX2.out x y h1 h2 h3 h4
                clear kp
                have hc3 := IHA.out mid E b (by omega) (by omega) (by omega) (by omega) d1 _ z2 S2 t3 t4 t5
                go_wp2_with (go_at_fn 91; refine hc3.mono ?_; rintro e w3 ⟨rfl, d3, hp3, hs3, S4⟩)
                have K3 : Aside (PermIn mid b d1 d3 ∧ SortedIn lt mid b d3) := ⟨hp3, hs3⟩
                have FF := sym_fin hb (by omega) (by omega) HH.out K2.out K3.out
                first | (go_end0; exact ⟨rfl, _, FF.1, FF.2, S4⟩) | ((try simp only [Exit.inBlock, Exit.then]); refine bodyPost_ret (results_none rfl _ _ _) rfl ?_; exact ⟨rfl, _, FF.1, FF.2, S4⟩)
              · have s2z : ¬ (E : Int) < (b : Int) := by omega
                have hc1 := rotate (P := P) k L F94 e94 F92 enc g cb blk off cap st m E d0 d w0 wr R (by omega) S1.out (by omega) (by omega) (by omega) (by omega)
                clear S1
                go_wp2_with (go_at_fn 114; refine hc1.mono ?_; rintro e w1 ⟨rfl, d1, hro, S2⟩)
                have hHX := HAL.out d1 (Or.inl hro)
                have HX1 : Aside _ := hHX.2.1
                have HX2 : Aside _ := hHX.2.2
                have hH := hHX.1
                clear hHX
                have z1 : d1.size = d.size := hH.2.1
                have eq2 : a = st := by omega
                have k2 := hH.1.h2
                first | rw [← eq2] at k2 | rw [eq2] at k2
                clear eq2
                have K2 : Aside (PermIn a mid d1 d1 ∧ SortedIn lt a mid d1) := ⟨permIn_refl _ _ _, k2⟩
                have HH : Aside _ := hH
                clear hH
                have z2 : d1.size = d.size := by first | exact K2.out.1.1.trans z1 | exact K2.out.1.1
                have kp : ∀ x, mid ≤ x → d1[x]! = d1[x]! := fun x hx => K2.out.1.2.1 x (by omega)
                have t3 : SortedIn lt mid E d1 := fun x y h1 h2 h3 => by rw [kp x (by omega), kp y (by omega)]; exact HH.out.1.h3 x y h1 h2 h3
                have t4 : SortedIn lt E b d1 := fun x y h1 h2 h3 => by rw [kp x (by omega), kp y (by omega)]; exact HH.out.1.h4 x y h1 h2 h3
                clear kp
                have eq3 : E = b := by omega
                have K3 : Aside (PermIn mid b d1 d1 ∧ SortedIn lt mid b d1) := ⟨permIn_refl _ _ _, by first | (rw [← eq3] at t3; exact t3) | (rw [eq3] at t3; exact t3)⟩
                clear eq3
                try go_wp2
                have FF := sym_fin hb (by omega) (by omega) HH.out K2.out K3.out
                first | (go_end0; exact ⟨rfl, _, FF.1, FF.2, S2⟩) | ((try simp only [Exit.inBlock, Exit.then]); refine bodyPost_ret (results_none rfl _ _ _) rfl ?_; exact ⟨rfl, _, FF.1, FF.2, S2⟩)
            · have s1z : ¬ (mid : Int) < (E : Int) := by omega
              have hc1 := rotate (P := P) k L F94 e94 F92 enc g cb blk off cap st m E d0 d w0 wr R (by omega) S1.out (by omega) (by omega) (by omega) (by omega)
              clear S1
              go_wp2_with (go_at_fn 114; refine hc1.mono ?_; rintro e w1 ⟨rfl, d1, hro, S2⟩)
              have hHX := HAL.out d1 (Or.inl hro)
              have HX1 : Aside _ := hHX.2.1
              have HX2 : Aside _ := hHX.2.2
              have hH := hHX.1
              clear hHX
              have z1 : d1.size = d.size := hH.2.1
              have eq2 : a = st := by omega
              have k2 := hH.1.h2
              first | rw [← eq2] at k2 | rw [eq2] at k2
              clear eq2
              have K2 : Aside (PermIn a mid d1 d1 ∧ SortedIn lt a mid d1) := ⟨permIn_refl _ _ _, k2⟩
              have HH : Aside _ := hH
              clear hH
              have z2 : d1.size = d.size := by first | exact K2.out.1.1.trans z1 | exact K2.out.1.1
              have kp : ∀ x, mid ≤ x → d1[x]! = d1[x]! := fun x hx => K2.out.1.2.1 x (by omega)
              have t3 : SortedIn lt mid E d1 := fun x y h1 h2 h3 => by rw [kp x (by omega), kp y (by omega)]; exact HH.out.1.h3 x y h1 h2 h3
              have t4 : SortedIn lt E b d1 := fun x y h1 h2 h3 => by rw [kp x (by omega), kp y (by omega)]; exact HH.out.1.h4 x y h1 h2 h3
              clear kp
              have eq3 : mid = E := by omega
              have K3 : Aside (PermIn mid b d1 d1 ∧ SortedIn lt mid b d1) := ⟨permIn_refl _ _ _, by first | (rw [← eq3] at t4; exact t4) | (rw [eq3] at t4; exact t4)⟩
              clear eq3
              try go_wp2
              have FF := sym_fin hb (by omega) (by omega) HH.out K2.out K3.out
              first | (go_end0; exact ⟨rfl, _, FF.1, FF.2, S2⟩) | ((try simp only [Exit.inBlock, Exit.then]); refine bodyPost_ret (results_none rfl _ _ _) rfl ?_; exact ⟨rfl, _, FF.1, FF.2, S2⟩)
        · have p2z : ¬ (m : Int) < (E : Int) := by omega
          by_cases q1 : a < st
          · have q1z : (a : Int) < (st : Int) := by omega
            by_cases q2 : st < mid
            · have q2z : (st : Int) < (mid : Int) := by omega
              by_cases s1 : mid < E
              · have s1z : (mid : Int) < (E : Int) := by omega
                by_cases s2 : E < b
                · have s2z : (E : Int) < (b : Int) := by omega
                  exact absurd q2 (by have := HE.out; omega)
                · have s2z : ¬ (E : Int) < (b : Int) := by omega
                  exact absurd q2 (by have := HE.out; omega)
              · have s1z : ¬ (mid : Int) < (E : Int) := by omega
                exact absurd q2 (by have := HE.out; omega)
            · have q2z : ¬ (st : Int) < (mid : Int) := by omega
              by_cases s1 : mid < E
              · have s1z : (mid : Int) < (E : Int) := by omega
                by_cases s2 : E < b
                · have s2z : (E : Int) < (b : Int) := by omega
                  have hHX := HAL.out d (Or.inr ⟨rfl, by omega⟩)
                  have HX1 : Aside _ := hHX.2.1
                  have HX2 : Aside _ := hHX.2.2
                  have hH := hHX.1
                  clear hHX
                  have z1 : d.size = d.size := hH.2.1
                  have eq2 : st = mid := by omega
                  have k2 := hH.1.h1
                  first | rw [← eq2] at k2 | rw [eq2] at k2
                  clear eq2
                  have K2 : Aside (PermIn a mid d d ∧ SortedIn lt a mid d) := ⟨permIn_refl _ _ _, k2⟩
                  have HH : Aside _ := hH
                  clear hH
                  have z2 : d.size = d.size := by first | exact K2.out.1.1.trans z1 | exact K2.out.1.1
                  have kp : ∀ x, mid ≤ x → d[x]! = d[x]! := fun x hx => K2.out.1.2.1 x (by omega)
                  have t3 : SortedIn lt mid E d := fun x y h1 h2 h3 => by rw [kp x (by omega), kp y (by omega)]; exact HH.out.1.h3 x y h1 h2 h3
                  have t4 : SortedIn lt E b d := fun x y h1 h2 h3 => by rw [kp x (by omega), kp y (by omega)]; exact HH.out.1.h4 x y h1 h2 h3
                  have t5 : Cr Q mid E b d := fun x y h1 h2 h3 h4 => by rw [kp x (by omega), kp y (by omega)]; exact HX2.out x y h1 h2 h3 h4
                  clear kp
                  have hc3 := IHA.out mid E b (by omega) (by omega) (by omega) (by omega) d _ z2 S1.out t3 t4 t5
                  go_wp2_with (go_at_fn 91; refine hc3.mono ?_; rintro e w3 ⟨rfl, d3, hp3, hs3, S4⟩)
                  have K3 : Aside (PermIn mid b d d3 ∧ SortedIn lt mid b d3) := ⟨hp3, hs3⟩
                  have FF := sym_fin hb (by omega) (by omega) HH.out K2.out K3.out
                  first | (go_end0; exact ⟨rfl, _, FF.1, FF.2, S4⟩) | ((try simp only [Exit.inBlock, Exit.then]); refine bodyPost_ret (results_none rfl _ _ _) rfl ?_; exact ⟨rfl, _, FF.1, FF.2, S4⟩)
                · have s2z : ¬ (E : Int) < (b : Int) := by omega
                  have hHX := HAL.out d (Or.inr ⟨rfl, by omega⟩)
                  have HX1 : Aside _ := hHX.2.1
                  have HX2 : Aside _ := hHX.2.2
                  have hH := hHX.1
                  clear hHX
                  have z1 : d.size = d.size := hH.2.1
                  have eq2 : st = mid := by omega
                  have k2 := hH.1.h1
                  first | rw [← eq2] at k2 | rw [eq2] at k2
                  clear eq2
                  have K2 : Aside (PermIn a mid d d ∧ SortedIn lt a mid d) := ⟨permIn_refl _ _ _, k2⟩
                  have HH : Aside _ := hH
                  clear hH
                  have z2 : d.size = d.size := by first | exact K2.out.1.1.trans z1 | exact K2.out.1.1
                  have kp : ∀ x, mid ≤ x → d[x]! = d[x]! := fun x hx => K2.out.1.2.1 x (by omega)
                  have t3 : SortedIn lt mid E d := fun x y h1 h2 h3 => by rw [kp x (by omega), kp y (by omega)]; exact HH.out.1.h3 x y h1 h2 h3
                  have t4 : SortedIn lt E b d := fun x y h1 h2 h3 => by rw [kp x (by omega), kp y (by omega)]; exact HH.out.1.h4 x y h1 h2 h3
                  clear kp
                  have eq3 : E = b := by omega
                  have K3 : Aside (PermIn mid b d d ∧ SortedIn lt mid b d) := ⟨permIn_refl _ _ _, by first | (rw [← eq3] at t3; exact t3) | (rw [eq3] at t3; exact t3)⟩
                  clear eq3
                  try go_wp2
                  have FF := sym_fin hb (by omega) (by omega) HH.out K2.out K3.out
                  first | (go_end0; exact ⟨rfl, _, FF.1, FF.2, S1.out⟩) | ((try simp only [Exit.inBlock, Exit.then]); refine bodyPost_ret (results_none rfl _ _ _) rfl ?_; exact ⟨rfl, _, FF.1, FF.2, S1.out⟩)
              · have s1z : ¬ (mid : Int) < (E : Int) := by omega
                have hHX := HAL.out d (Or.inr ⟨rfl, by omega⟩)
                have HX1 : Aside _ := hHX.2.1
                have HX2 : Aside _ := hHX.2.2
                have hH := hHX.1
                clear hHX
                have z1 : d.size = d.size := hH.2.1
                have eq2 : st = mid := by omega
                have k2 := hH.1.h1
                first | rw [← eq2] at k2 | rw [eq2] at k2
                clear eq2
                have K2 : Aside (PermIn a mid d d ∧ SortedIn lt a mid d) := ⟨permIn_refl _ _ _, k2⟩
                have HH : Aside _ := hH
                clear hH
                have z2 : d.size = d.size := by first | exact K2.out.1.1.trans z1 | exact K2.out.1.1
                have kp : ∀ x, mid ≤ x → d[x]! = d[x]! := fun x hx => K2.out.1.2.1 x (by omega)
                have t3 : SortedIn lt mid E d := fun x y h1 h2 h3 => by rw [kp x (by omega), kp y (by omega)]; exact HH.out.1.h3 x y h1 h2 h3
                have t4 : SortedIn lt E b d := fun x y h1 h2 h3 => by rw [kp x (by omega), kp y (by omega)]; exact HH.out.1.h4 x y h1 h2 h3
                clear kp
                have eq3 : mid = E := by omega
                have K3 : Aside (PermIn mid b d d ∧ SortedIn lt mid b d) := ⟨permIn_refl _ _ _, by first | (rw [← eq3] at t4; exact t4) | (rw [eq3] at t4; exact t4)⟩
                clear eq3
                try go_wp2
                have FF := sym_fin hb (by omega) (by omega) HH.out K2.out K3.out
                first | (go_end0; exact ⟨rfl, _, FF.1, FF.2, S1.out⟩) | ((try simp only [Exit.inBlock, Exit.then]); refine bodyPost_ret (results_none rfl _ _ _) rfl ?_; exact ⟨rfl, _, FF.1, FF.2, S1.out⟩)
          · have q1z : ¬ (a : Int) < (st : Int) := by omega
            by_cases s1 : mid < E
            · have s1z : (mid : Int) < (E : Int) := by omega
              by_cases s2 : E < b
              · have s2z : (E : Int) < (b : Int) := by omega
                have hHX := HAL.out d (Or.inr ⟨rfl, by omega⟩)
                have HX1 : Aside _ := hHX.2.1
                have HX2 : Aside _ := hHX.2.2
                have hH := hHX.1
                clear hHX
                have z1 : d.size = d.size := hH.2.1
                have eq2 : a = st := by omega
                have k2 := hH.1.h2
                first | rw [← eq2] at k2 | rw [eq2] at k2
                clear eq2
                have K2 : Aside (PermIn a mid d d ∧ SortedIn lt a mid d) := ⟨permIn_refl _ _ _, k2⟩
                have HH : Aside _ := hH
                clear hH
                have z2 : d.size = d.size := by first | exact K2.out.1.1.trans z1 | exact K2.out.1.1
                have kp : ∀ x, mid ≤ x → d[x]! = d[x]! := fun x hx => K2.out.1.2.1 x (by omega)
                have t3 : SortedIn lt mid E d := fun x y h1 h2 h3 => by rw [kp x (by omega), kp y (by omega)]; exact HH.out.1.h3 x y h1 h2 h3
                have t4 : SortedIn lt E b d := fun x y h1 h2 h3 => by rw [kp x (by omega), kp y (by omega)]; exact HH.out.1.h4 x y h1 h2 h3
                have t5 : Cr Q mid E b d := fun x y h1 h2 h3 h4 => by rw [kp x (by omega), kp y (by omega)]; exact HX2.out x y h1 h2 h3 h4
                clear kp
                have hc3 := IHA.out mid E b (by omega) (by omega) (by omega) (by omega) d _ z2 S1.out t3 t4 t5
                go_wp2_with (go_at_fn 91; refine hc3.mono ?_; rintro e w3 ⟨rfl, d3, hp3, hs3, S4⟩)
                have K3 : Aside (PermIn mid b d d3 ∧ SortedIn lt mid b d3) := ⟨hp3, hs3⟩
                have FF := sym_fin hb (by omega) (by omega) HH.out K2.out K3.out
                first | (go_end0; exact ⟨rfl, _, FF.1, FF.2, S4⟩) | ((try simp only [Exit.inBlock, Exit.then]); refine bodyPost_ret (results_none rfl _ _ _) rfl ?_; exact ⟨rfl, _, FF.1, FF.2, S4⟩)
              · have s2z : ¬ (E : Int) < (b : Int) := by omega
                have hHX := HAL.out d (Or.inr ⟨rfl, by omega⟩)
                have HX1 : Aside _ := hHX.2.1
                have HX2 : Aside _ := hHX.2.2
                have hH := hHX.1
                clear hHX
                have z1 : d.size = d.size := hH.2.1
                have eq2 : a = st := by omega
                have k2 := hH.1.h2
                first | rw [← eq2] at k2 | rw [eq2] at k2
                clear eq2
                have K2 : Aside (PermIn a mid d d ∧ SortedIn lt a mid d) := ⟨permIn_refl _ _ _, k2⟩
                have HH : Aside _ := hH
                clear hH
                have z2 : d.size = d.size := by first | exact K2.out.1.1.trans z1 | exact K2.out.1.1
                have kp : ∀ x, mid ≤ x → d[x]! = d[x]! := fun x hx => K2.out.1.2.1 x (by omega)
                have t3 : SortedIn lt mid E d := fun x y h1 h2 h3 => by rw [kp x (by omega), kp y (by omega)]; exact HH.out.1.h3 x y h1 h2 h3
                have t4 : SortedIn lt E b d := fun x y h1 h2 h3 => by rw [kp x (by omega), kp y (by omega)]; exact HH.out.1.h4 x y h1 h2 h3
                clear kp
                have eq3 : E = b := by omega
                have K3 : Aside (PermIn mid b d d ∧ SortedIn lt mid b d) := ⟨permIn_refl _ _ _, by first | (rw [← eq3] at t3; exact t3) | (rw [eq3] at t3; exact t3)⟩
                clear eq3
                try go_wp2
                have FF := sym_fin hb (by omega) (by omega) HH.out K2.out K3.out
                first | (go_end0; exact ⟨rfl, _, FF.1, FF.2, S1.out⟩) | ((try simp only [Exit.inBlock, Exit.then]); refine bodyPost_ret (results_none rfl _ _ _) rfl ?_; exact ⟨rfl, _, FF.1, FF.2, S1.out⟩)
            · have s1z : ¬ (mid : Int) < (E : Int) := by omega
              have hHX := HAL.out d (Or.inr ⟨rfl, by omega⟩)
              have HX1 : Aside _ := hHX.2.1
              have HX2 : Aside _ := hHX.2.2
              have hH := hHX.1
              clear hHX
              have z1 : d.size = d.size := hH.2.1
              have eq2 : a = st := by omega
              have k2 := hH.1.h2
              first | rw [← eq2] at k2 | rw [eq2] at k2
              clear eq2
              have K2 : Aside (PermIn a mid d d ∧ SortedIn lt a mid d) := ⟨permIn_refl _ _ _, k2⟩
              have HH : Aside _ := hH
              clear hH
              have z2 : d.size = d.size := by first | exact K2.out.1.1.trans z1 | exact K2.out.1.1
              have kp : ∀ x, mid ≤ x → d[x]! = d[x]! := fun x hx => K2.out.1.2.1 x (by omega)
              have t3 : SortedIn lt mid E d := fun x y h1 h2 h3 => by rw [kp x (by omega), kp y (by omega)]; exact HH.out.1.h3 x y h1 h2 h3
              have t4 : SortedIn lt E b d := fun x y h1 h2 h3 => by rw [kp x (by omega), kp y (by omega)]; exact HH.out.1.h4 x y h1 h2 h3
              clear kp
              have eq3 : mid = E := by omega
              have K3 : Aside (PermIn mid b d d ∧ SortedIn lt mid b d) := ⟨permIn_refl _ _ _, by first | (rw [← eq3] at t4; exact t4) | (rw [eq3] at t4; exact t4)⟩
              clear eq3
              try go_wp2
              have FF := sym_fin hb (by omega) (by omega) HH.out K2.out K3.out
              first | (go_end0; exact ⟨rfl, _, FF.1, FF.2, S1.out⟩) | ((try simp only [Exit.inBlock, Exit.then]); refine bodyPost_ret (results_none rfl _ _ _) rfl ?_; exact ⟨rfl, _, FF.1, FF.2, S1.out⟩)
      · have p1z : ¬ (st : Int) < (m : Int) := by omega
        by_cases q1 : a < st
        · have q1z : (a : Int) < (st : Int) := by omega
          by_cases q2 : st < mid
          · have q2z : (st : Int) < (mid : Int) := by omega
            by_cases s1 : mid < E
            · have s1z : (mid : Int) < (E : Int) := by omega
              by_cases s2 : E < b
              · have s2z : (E : Int) < (b : Int) := by omega
                exact absurd s1 (by have := HE.out; omega)
              · have s2z : ¬ (E : Int) < (b : Int) := by omega
                exact absurd s1 (by have := HE.out; omega)
            · have s1z : ¬ (mid : Int) < (E : Int) := by omega
              have hHX := HAL.out d (Or.inr ⟨rfl, by omega⟩)
              have HX1 : Aside _ := hHX.2.1
              have HX2 : Aside _ := hHX.2.2
              have hH := hHX.1
              clear hHX
              have z1 : d.size = d.size := hH.2.1
              have hc2 := IHA.out a st mid (by omega) (by omega) (by omega) (by omega) d _ z1 S1.out hH.1.h1 hH.1.h2 HX1.out
              have HH : Aside _ := hH
              clear hH
              go_wp2_with (go_at_fn 91; refine hc2.mono ?_; rintro e w2 ⟨rfl, d2, hp2, hs2, S3⟩)
              have K2 : Aside (PermIn a mid d d2 ∧ SortedIn lt a mid d2) := ⟨hp2, hs2⟩
              have z2 : d2.size = d.size := by first | exact K2.out.1.1.trans z1 | exact K2.out.1.1
              have kp : ∀ x, mid ≤ x → d2[x]! = d[x]! := fun x hx => K2.out.1.2.1 x (by omega)
              have t3 : SortedIn lt mid E d2 := fun x y h1 h2 h3 => by rw [kp x (by omega), kp y (by omega)]; exact HH.out.1.h3 x y h1 h2 h3
              have t4 : SortedIn lt E b d2 := fun x y h1 h2 h3 => by rw [kp x (by omega), kp y (by omega)]; exact HH.out.1.h4 x y h1 h2 h3
              clear kp
              have eq3 : mid = E := by omega
              have K3 : Aside (PermIn mid b d2 d2 ∧ SortedIn lt mid b d2) := ⟨permIn_refl _ _ _, by first | (rw [← eq3] at t4; exact t4) | (rw [eq3] at t4; exact t4)⟩
              clear eq3
              try go_wp2
              have FF := sym_fin hb (by omega) (by omega) HH.out K2.out K3.out
              first | (go_end0; exact ⟨rfl, _, FF.1, FF.2, S3⟩) | ((try simp only [Exit.inBlock, Exit.then]); refine bodyPost_ret (results_none rfl _ _ _) rfl ?_; exact ⟨rfl, _, FF.1, FF.2, S3⟩)
          · have q2z : ¬ (st : Int) < (mid : Int) := by omega
            by_cases s1 : mid < E
            · have s1z : (mid : Int) < (E : Int) := by omega
              by_cases s2 : E < b
              · have s2z : (E : Int) < (b : Int) := by omega
                exact absurd s1 (by have := HE.out; omega)
              · have s2z : ¬ (E : Int) < (b : Int) := by omega
                exact absurd s1 (by have := HE.out; omega)
            · have s1z : ¬ (mid : Int) < (E : Int) := by omega
              have hHX := HAL.out d (Or.inr ⟨rfl, by omega⟩)
              have HX1 : Aside _ := hHX.2.1
              have HX2 : Aside _ := hHX.2.2
              have hH := hHX.1
              clear hHX
              have z1 : d.size = d.size := hH.2.1
              have eq2 : st = mid := by omega
              have k2 := hH.1.h1
              first | rw [← eq2] at k2 | rw [eq2] at k2
              clear eq2
              have K2 : Aside (PermIn a mid d d ∧ SortedIn lt a mid d) := ⟨permIn_refl _ _ _, k2⟩
              have HH : Aside _ := hH
              clear hH
              have z2 : d.size = d.size := by first | exact K2.out.1.1.trans z1 | exact K2.out.1.1
              have kp : ∀ x, mid ≤ x → d[x]! = d[x]! := fun x hx => K2.out.1.2.1 x (by omega)
              have t3 : SortedIn lt mid E d := fun x y h1 h2 h3 => by rw [kp x (by omega), kp y (by omega)]; exact HH.out.1.h3 x y h1 h2 h3
              have t4 : SortedIn lt E b d := fun x y h1 h2 h3 => by rw [kp x (by omega), kp y (by omega)]; exact HH.out.1.h4 x y h1 h2 h3
              clear kp
              have eq3 : mid = E := by omega
              have K3 : Aside (PermIn mid b d d ∧ SortedIn lt mid b d) := ⟨permIn_refl _ _ _, by first | (rw [← eq3] at t4; exact t4) | (rw [eq3] at t4; exact t4)⟩
              clear eq3
              try go_wp2
              have FF := sym_fin hb (by omega) (by omega) HH.out K2.out K3.out
              first | (go_end0; exact ⟨rfl, _, FF.1, FF.2, S1.out⟩) | ((try simp only [Exit.inBlock, Exit.then]); refine bodyPost_ret (results_none rfl _ _ _) rfl ?_; exact ⟨rfl, _, FF.1, FF.2, S1.out⟩)
        · have q1z : ¬ (a : Int) < (st : Int) := by omega
          by_cases s1 : mid < E
          · have s1z : (mid : Int) < (E : Int) := by omega
            by_cases s2 : E < b
            · have s2z : (E : Int) < (b : Int) := by omega
              exact absurd s1 (by have := HE.out; omega)
            · have s2z : ¬ (E : Int) < (b : Int) := by omega
              exact absurd s1 (by have := HE.out; omega)
          · have s1z : ¬ (mid : Int) < (E : Int) := by omega
            have hHX := HAL.out d (Or.inr ⟨rfl, by omega⟩)
            have HX1 : Aside _ := hHX.2.1
            have HX2 : Aside _ := hHX.2.2
            have hH := hHX.1
            clear hHX
            have z1 : d.size = d.size := hH.2.1
            have eq2 : a = st := by omega
            have k2 := hH.1.h2
            first | rw [← eq2] at k2 | rw [eq2] at k2
            clear eq2
            have K2 : Aside (PermIn a mid d d ∧ SortedIn lt a mid d) := ⟨permIn_refl _ _ _, k2⟩
            have HH : Aside _ := hH
            clear hH
            have z2 : d.size = d.size := by first | exact K2.out.1.1.trans z1 | exact K2.out.1.1
            have kp : ∀ x, mid ≤ x → d[x]! = d[x]! := fun x hx => K2.out.1.2.1 x (by omega)
            have t3 : SortedIn lt mid E d := fun x y h1 h2 h3 => by rw [kp x (by omega), kp y (by omega)]; exact HH.out.1.h3 x y h1 h2 h3
            have t4 : SortedIn lt E b d := fun x y h1 h2 h3 => by rw [kp x (by omega), kp y (by omega)]; exact HH.out.1.h4 x y h1 h2 h3
            clear kp
            have eq3 : mid = E := by omega
            have K3 : Aside (PermIn mid b d d ∧ SortedIn lt mid b d) := ⟨permIn_refl _ _ _, by first | (rw [← eq3] at t4; exact t4) | (rw [eq3] at t4; exact t4)⟩
            clear eq3
            try go_wp2
            have FF := sym_fin hb (by omega) (by omega) HH.out K2.out K3.out
            first | (go_end0; exact ⟨rfl, _, FF.1, FF.2, S1.out⟩) | ((try simp only [Exit.inBlock, Exit.then]); refine bodyPost_ret (results_none rfl _ _ _) rfl ?_; exact ⟨rfl, _, FF.1, FF.2, S1.out⟩)
set_option maxHeartbeats 8000000 in
set_option maxRecDepth 1000000 in
theorem symLo (k : Nat) (L : Lay P k) (F94 : P.funcs[137]? = some Tryz.f137) (e94 : ∀ args w, (callFunc 137 args).run P w = .ok (.enter 137 args) w) (F92 : P.funcs[114]? = some Tryz.f114) (e92 : ∀ args w, (callFunc 114 args).run P w = .ok (.enter 114 args) w) (FG : P.funcs[91]? = some Tryz.f91) (e85 : ∀ args w, (callFunc 91 args).run P w = .ok (.enter 91 args) w) (enc : α → List Value) (cf : α → α → Int) {lt : α → α → Bool} {Q : α → α → Prop} (hQ : ∀ x y, Q x y → lt x y = ltOf cf x y) (hS : SWO lt) (g : Nat) (cb : Array Value) (blk off cap a m b : Nat) (d0 d : Array α) (w0 w : World)
    (eg : ∀ args w, (callFunc g args).run P w = .ok (.enter g args) w) (hcmp : CmpLays P g cb enc k cf blk off d.size w0)
    (R : RowK enc k w0 blk off d0) (hs : d0.size = d.size) (S : SWK enc k w0 blk off d w) (ham : a + 1 < m) (hmb : m + 1 < b) (hb : b ≤ d.size) (hsz : d.size < 4611686018427387904) (hL : SortedIn lt a m d) (hR : SortedIn lt m b d) (hX : Cr Q a m b d) (hm : ¬ (a + b) / 2 < m)
    (IH : ∀ a' m' b', b' - a' < b - a → a' < m' → m' < b' → b' ≤ d.size → Sym P enc k lt Q g cb blk off cap d.size w0 a' m' b') :
    Calls P 91 #[.slice (some ⟨blk, off, none⟩) d.size cap, .int .i64 a, .int .i64 m, .int .i64 b, .func (.func g) #[] cb] w fun e w' => e = .returned (.tuple #[]) ∧ ∃ d', PermIn a b d d' ∧ SortedIn lt a b d' ∧ SWK enc k w0 blk off d' w' := by
  have mixed := L.mixed; have t0 := L.t0; have a0 := L.a0; have z0 := L.z0; have v0 := L.v0; have t3 := L.t3; have a3 := L.a3; have z3 := L.z3; have v3 := L.v3; have t4 := L.t4; have a4 := L.a4; have z4 := L.z4; have v4 := L.v4; have tU := L.tU; have aU := L.aU; have zU := L.zU; have vU := L.vU; have tS := L.tS; have aS := L.aS; have zS := L.zS; have vS := L.vS; have tF := L.tF; have aF := L.aF; have zF := L.zF; have vF := L.vF; have aE := L.aE; have zE := L.zE
  have HC : Aside _ := hcmp
  have S0 : Aside (SWK enc k w0 blk off d w) := S
  have SW : Aside (SWO lt) := hS
  have SL : Aside _ := hL
  have SR : Aside _ := hR
  have IHA : Aside _ := IH
  have HX : Aside _ := hX
  have HQ : Aside _ := hQ
  clear S hS hL hR hcmp IH hX hQ
  have e2 : ¬ (m : Int) - (a : Int) = 1 := by omega
  have e3 : (((m : Int) - (a : Int)) == 1) = false := by rw [beq_eq_false_iff_ne]; exact e2
  have e4 : ¬ (b : Int) - (m : Int) = 1 := by omega
  have e5 : (((b : Int) - (m : Int)) == 1) = false := by rw [beq_eq_false_iff_ne]; exact e4
  obtain ⟨mid, hmid⟩ : ∃ mid, mid = (a + b) / 2 := ⟨_, rfl⟩
  have emid : ((a : Int) + (b : Int)) / 2 = (mid : Int) := by omega
  have f1 : 2 * mid ≤ a + b := by omega
  have f2 : a + b ≤ 2 * mid + 1 := by omega
  have HM : Hid (mid = (a + b) / 2) := hmid
  rw [← hmid] at hm
  have hmz : ¬ (mid : Int) < (m : Int) := by omega
  clear hmid
  obtain ⟨pp, hpp⟩ : ∃ p, p = mid + m - 1 := ⟨_, rfl⟩
  have HP : Hid (pp = mid + m - 1) := hpp
  have epp : (mid : Int) + (m : Int) - 1 = (pp : Int) := by omega
  clear hpp
  go_enter FG, Tryz.ntmps91
  go_wp2_with fail
  go_loopg [20, 21] (b - a) (fun kx s20 s21 wr => ∃ (st r : Nat), s20 = .int .i64 st ∧ s21 = .int .i64 r ∧ a ≤ st ∧ st ≤ r ∧ r ≤ m ∧ r - st ≤ kx ∧ Aside (SWK enc k w0 blk off d wr) ∧ Hid (∀ x, a ≤ x → x < st → lt d[mid + m - 1 - x]! d[x]! = false) ∧ Hid (∀ x, r ≤ x → x < m → lt d[mid + m - 1 - x]! d[x]! = true))
  case atStart => exact ⟨a, m, rfl, rfl, Nat.le_refl _, by omega, Nat.le_refl _, by omega, S0, fun x h1 h2 => by omega, fun x h1 h2 => by omega⟩
  case round =>
    clear S0
    obtain ⟨st, r, rfl, rfl, hst, hsr, hr, hkx, S1, HL, HR⟩ := hrel
    by_cases hij : st < r
    · have hijz : (st : Int) < (r : Int) := by omega
      obtain ⟨h, hh⟩ : ∃ h, h = (st + r) / 2 := ⟨_, rfl⟩
      have hh1 : st ≤ h := by omega
      have hh2 : h < r := by omega
      have ehz : ((st : Int) + (r : Int)) / 2 = (h : Int) := by omega
      clear hh
      obtain ⟨u, hu⟩ : ∃ u, u = mid + m - 1 - h := ⟨_, rfl⟩
      have hub : u < d.size := by omega
      have HB : Hid (m ≤ u ∧ u < b) := ⟨by omega, by omega⟩
      have euz : (pp : Int) - (h : Int) = (u : Int) := by have := HP.out; omega
      have HU : Hid (u = mid + m - 1 - h) := hu
      clear hu
      go_wp2_with fail
      clear ehz
      cases hG : lt d[u]! d[h]! with
      | true =>
        have HR2 : Hid (∀ x, h ≤ x → x < m → lt d[mid + m - 1 - x]! d[x]! = true) := find_right SW.out SL.out SR.out (by omega) (by omega) (by omega) (by omega) (by rw [← HU.out]; exact hG)
        have ea24 : (((u : Int) : Int)).toNat = u := by omega
        have pa24 : (0 : Int) ≤ (u : Int) := by omega
        have ba24 : (u : Int) < (d.size : Int) := by omega
        have ra24 : IntKind.i64.wrap ((u : Int)) = (u : Int) := by rw [IntKind.wrap_i64]; omega
        have ec24 : (((h : Int) : Int)).toNat = h := by omega
        have pc24 : (0 : Int) ≤ (h : Int) := by omega
        have bc24 : (h : Int) < (d.size : Int) := by omega
        have rc24 : IntKind.i64.wrap ((h : Int)) = (h : Int) := by rw [IntKind.wrap_i64]; omega
        obtain ⟨x24, hx24⟩ : ∃ x, x = d[u]! := ⟨_, rfl⟩
        obtain ⟨y24, hy24⟩ : ∃ x, x = d[h]! := ⟨_, rfl⟩
        have l24a := S1.out.ld R (by omega) P (u) (by omega)
        have l24b := S1.out.ld R (by omega) P (h) (by omega)
        rw [← hx24] at l24a
        rw [← hy24] at l24b
        have hc24 := S1.out.cmp HC.out (by omega) x24 y24
        have hv24 : cf x24 y24 < 0 := by rw [hx24, hy24]; exact of_decide_eq_true ((HQ.out _ _ (HX.out u h HB.out.1 HB.out.2 (by omega) (by omega))).symm.trans hG)
        have hd24 : decide (cf x24 y24 < 0) = true := decide_eq_true hv24
        clear hx24 hy24
        go_wp2_with fail
        go_quiet_grown (first | (go_at_fn g; refine Calls.grown_of (hc24 _ _)))
        have S2 : Aside (SWK enc k w0 blk off d (grow (wr.drewN nq) osq)) := S1.out.grown nq osq
        clear l24a l24b hc24 S1
        generalize grow (wr.drewN nq) osq = w2 at S2 ⊢
        clear nq osq
        go_wp2
        go_roundg (h - st)
        case measure => omega
        case rel => exact ⟨st, h, rfl, rfl, hst, hh1, by omega, Nat.le_refl _, S2, HL, HR2⟩
      | false =>
        have HL2 : Hid (∀ x, a ≤ x → x < h + 1 → lt d[mid + m - 1 - x]! d[x]! = false) := find_left SW.out SL.out SR.out (by omega) (by omega) (by omega) (by omega) (by rw [← HU.out]; exact hG)
        have ea25 : (((u : Int) : Int)).toNat = u := by omega
        have pa25 : (0 : Int) ≤ (u : Int) := by omega
        have ba25 : (u : Int) < (d.size : Int) := by omega
        have ra25 : IntKind.i64.wrap ((u : Int)) = (u : Int) := by rw [IntKind.wrap_i64]; omega
        have ec25 : (((h : Int) : Int)).toNat = h := by omega
        have pc25 : (0 : Int) ≤ (h : Int) := by omega
        have bc25 : (h : Int) < (d.size : Int) := by omega
        have rc25 : IntKind.i64.wrap ((h : Int)) = (h : Int) := by rw [IntKind.wrap_i64]; omega
        obtain ⟨x25, hx25⟩ : ∃ x, x = d[u]! := ⟨_, rfl⟩
        obtain ⟨y25, hy25⟩ : ∃ x, x = d[h]! := ⟨_, rfl⟩
        have l25a := S1.out.ld R (by omega) P (u) (by omega)
        have l25b := S1.out.ld R (by omega) P (h) (by omega)
        rw [← hx25] at l25a
        rw [← hy25] at l25b
        have hc25 := S1.out.cmp HC.out (by omega) x25 y25
        have hv25 : ¬ cf x25 y25 < 0 := by rw [hx25, hy25]; exact of_decide_eq_false ((HQ.out _ _ (HX.out u h HB.out.1 HB.out.2 (by omega) (by omega))).symm.trans hG)
        have hd25 : decide (cf x25 y25 < 0) = false := decide_eq_false hv25
        clear hx25 hy25
        go_wp2_with fail
        go_quiet_grown (first | (go_at_fn g; refine Calls.grown_of (hc25 _ _)))
        have S2 : Aside (SWK enc k w0 blk off d (grow (wr.drewN nq) osq)) := S1.out.grown nq osq
        clear l25a l25b hc25 S1
        generalize grow (wr.drewN nq) osq = w2 at S2 ⊢
        clear nq osq
        go_wp2
        go_roundg (r - (h + 1))
        case measure => omega
        case rel => exact ⟨h + 1, r, by go_num, rfl, by omega, by omega, hr, Nat.le_refl _, S2, HL2, HR⟩
    · have hijz : ¬ (st : Int) < (r : Int) := by omega
      obtain rfl : st = r := by omega
      have FND : Aside (Found lt d a m b st) := found_lo HM.out hm hst hr HL.out HR.out
      obtain ⟨E, hE⟩ : ∃ E, E = mid + m - st := ⟨_, rfl⟩
      have HE : Hid (E = mid + m - st) := hE
      have eE : (mid : Int) + (m : Int) - (st : Int) = (E : Int) := by omega
      have bb : a ≤ st ∧ st ≤ m ∧ st ≤ mid ∧ m ≤ E ∧ mid ≤ E ∧ E ≤ b := by omega
      obtain ⟨b1, b2, b3, b4, b5, b6⟩ := bb
      clear HL HR
      have HAL : Aside (∀ d1, Rot m (m - st) (E - m) d d1 ∨ (d1 = d ∧ ¬ (st < m ∧ m < E)) → (Halves lt d1 a mid b st E ∧ PermIn a b d d1) ∧ Cr Q a st mid d1 ∧ Cr Q mid E b d1) := fun d1 h => ⟨half_rot SW.out (by omega) (by omega) hb HM.out HE.out FND.out SL.out SR.out h, cr_rot HE.out b1 b2 b3 b4 b5 b6 HX.out h⟩
      clear FND hE
      by_cases p1 : st < m
      · have p1z : (st : Int) < (m : Int) := by omega
        by_cases p2 : m < E
        · have p2z : (m : Int) < (E : Int) := by omega
          by_cases q1 : a < st
          · have q1z : (a : Int) < (st : Int) := by omega
            by_cases q2 : st < mid
            · have q2z : (st : Int) < (mid : Int) := by omega
              by_cases s1 : mid < E
              · have s1z : (mid : Int) < (E : Int) := by omega
                by_cases s2 : E < b
                · have s2z : (E : Int) < (b : Int) := by omega
                  have hc1 := rotate (P := P) k L F94 e94 F92 enc g cb blk off cap st m E d0 d w0 wr R (by omega) S1.out (by omega) (by omega) (by omega) (by omega)
                  clear S1
                  go_wp2_with (go_at_fn 114; refine hc1.mono ?_; rintro e w1 ⟨rfl, d1, hro, S2⟩)
                  have hHX := HAL.out d1 (Or.inl hro)
                  have HX1 : Aside _ := hHX.2.1
                  have HX2 : Aside _ := hHX.2.2
                  have hH := hHX.1
                  clear hHX
                  have z1 : d1.size = d.size := hH.2.1
                  have hc2 := IHA.out a st mid (by omega) (by omega) (by omega) (by omega) d1 _ z1 S2 hH.1.h1 hH.1.h2 HX1.out
                  have HH : Aside _ := hH
                  clear hH
                  go_wp2_with (go_at_fn 91; refine hc2.mono ?_; rintro e w2 ⟨rfl, d2, hp2, hs2, S3⟩)
                  have K2 : Aside (PermIn a mid d1 d2 ∧ SortedIn lt a mid d2) := ⟨hp2, hs2⟩
                  have z2 : d2.size = d.size := by first | exact K2.out.1.1.trans z1 | exact K2.out.1.1
                  have kp : ∀ x, mid ≤ x → d2[x]! = d1[x]! := fun x hx => K2.out.1.2.1 x (by omega)
                  have t3 : SortedIn lt mid E d2 := fun x y h1 h2 h3 => by rw [kp x (by omega), kp y (by omega)]; exact HH.out.1.h3 x y h1 h2 h3
                  have t4 : SortedIn lt E b d2 := fun x y h1 h2 h3 => by rw [kp x (by omega), kp y (by omega)]; exact HH.out.1.h4 x y h1 h2 h3
                  have t5 : Cr Q mid E b d2 := fun x y h1 h2 h3 h4 => by rw [kp x (by omega), kp y (by omega)]; exact HX2.out x y h1 h2 h3 h4
                  clear kp
                  have hc3 := IHA.out mid E b (by omega) (by omega) (by omega) (by omega) d2 _ z2 S3 t3 t4 t5
                  go_wp2_with (go_at_fn 91; refine hc3.mono ?_; rintro e w3 ⟨rfl, d3, hp3, hs3, S4⟩)
                  have K3 : Aside (PermIn mid b d2 d3 ∧ SortedIn lt mid b d3) := ⟨hp3, hs3⟩
                  have FF := sym_fin hb (by omega) (by omega) HH.out K2.out K3.out
                  first | (go_end0; exact ⟨rfl, _, FF.1, FF.2, S4⟩) | ((try simp only [Exit.inBlock, Exit.then]); refine bodyPost_ret (results_none rfl _ _ _) rfl ?_; exact ⟨rfl, _, FF.1, FF.2, S4⟩)
                · have s2z : ¬ (E : Int) < (b : Int) := by omega
                  have hc1 := rotate (P := P) k L F94 e94 F92 enc g cb blk off cap st m E d0 d w0 wr R (by omega) S1.out (by omega) (by omega) (by omega) (by omega)
                  clear S1
                  go_wp2_with (go_at_fn 114; refine hc1.mono ?_; rintro e w1 ⟨rfl, d1, hro, S2⟩)
                  have hHX := HAL.out d1 (Or.inl hro)
                  have HX1 : Aside _ := hHX.2.1
                  have HX2 : Aside _ := hHX.2.2
                  have hH := hHX.1
                  clear hHX
                  have z1 : d1.size = d.size := hH.2.1
                  have hc2 := IHA.out a st mid (by omega) (by omega) (by omega) (by omega) d1 _ z1 S2 hH.1.h1 hH.1.h2 HX1.out
                  have HH : Aside _ := hH
                  clear hH
                  go_wp2_with (go_at_fn 91; refine hc2.mono ?_; rintro e w2 ⟨rfl, d2, hp2, hs2, S3⟩)
                  have K2 : Aside (PermIn a mid d1 d2 ∧ SortedIn lt a mid d2) := ⟨hp2, hs2⟩
                  have z2 : d2.size = d.size := by first | exact K2.out.1.1.trans z1 | exact K2.out.1.1
                  have kp : ∀ x, mid ≤ x → d2[x]! = d1[x]! := fun x hx => K2.out.1.2.1 x (by omega)
                  have t3 : SortedIn lt mid E d2 := fun x y h1 h2 h3 => by rw [kp x (by omega), kp y (by omega)]; exact HH.out.1.h3 x y h1 h2 h3
                  have t4 : SortedIn lt E b d2 := fun x y h1 h2 h3 => by rw [kp x (by omega), kp y (by omega)]; exact HH.out.1.h4 x y h1 h2 h3
                  clear kp
                  have eq3 : E = b := by omega
                  have K3 : Aside (PermIn mid b d2 d2 ∧ SortedIn lt mid b d2) := ⟨permIn_refl _ _ _, by first | (rw [← eq3] at t3; exact t3) | (rw [eq3] at t3; exact t3)⟩
                  clear eq3
                  try go_wp2
                  have FF := sym_fin hb (by omega) (by omega) HH.out K2.out K3.out
                  first | (go_end0; exact ⟨rfl, _, FF.1, FF.2, S3⟩) | ((try simp only [Exit.inBlock, Exit.then]); refine bodyPost_ret (results_none rfl _ _ _) rfl ?_; exact ⟨rfl, _, FF.1, FF.2, S3⟩)
              · have s1z : ¬ (mid : Int) < (E : Int) := by omega
                have hc1 := rotate (P := P) k L F94 e94 F92 enc g cb blk off cap st m E d0 d w0 wr R (by omega) S1.out (by omega) (by omega) (by omega) (by omega)
                clear S1
                go_wp2_with (go_at_fn 114; refine hc1.mono ?_; rintro e w1 ⟨rfl, d1, hro, S2⟩)
                have hHX := HAL.out d1 (Or.inl hro)
                have HX1 : Aside _ := hHX.2.1
                have HX2 : Aside _ := hHX.2.2
                have hH := hHX.1
                clear hHX
                have z1 : d1.size = d.size := hH.2.1
                have hc2 := IHA.out a st mid (by omega) (by omega) (by omega) (by omega) d1 _ z1 S2 hH.1.h1 hH.1.h2 HX1.out
                have HH : Aside _ := hH
                clear hH
                go_wp2_with (go_at_fn 91; refine hc2.mono ?_; rintro e w2 ⟨rfl, d2, hp2, hs2, S3⟩)
                have K2 : Aside (PermIn a mid d1 d2 ∧ SortedIn lt a mid d2) := ⟨hp2, hs2⟩
                have z2 : d2.size = d.size := by first | exact K2.out.1.1.trans z1 | exact K2.out.1.1
                have kp : ∀ x, mid ≤ x → d2[x]! = d1[x]! := fun x hx => K2.out.1.2.1 x (by omega)
                have t3 : SortedIn lt mid E d2 := fun x y h1 h2 h3 => by rw [kp x (by omega), kp y (by omega)]; exact HH.out.1.h3 x y h1 h2 h3
                have t4 : SortedIn lt E b d2 := fun x y h1 h2 h3 => by rw [kp x (by omega), kp y (by omega)]; exact HH.out.1.h4 x y h1 h2 h3
                clear kp
                have eq3 : mid = E := by omega
                have K3 : Aside (PermIn mid b d2 d2 ∧ SortedIn lt mid b d2) := ⟨permIn_refl _ _ _, by first | (rw [← eq3] at t4; exact t4) | (rw [eq3] at t4; exact t4)⟩
                clear eq3
                try go_wp2
                have FF := sym_fin hb (by omega) (by omega) HH.out K2.out K3.out
                first | (go_end0; exact ⟨rfl, _, FF.1, FF.2, S3⟩) | ((try simp only [Exit.inBlock, Exit.then]); refine bodyPost_ret (results_none rfl _ _ _) rfl ?_; exact ⟨rfl, _, FF.1, FF.2, S3⟩)
            · have q2z : ¬ (st : Int) < (mid : Int) := by omega
              by_cases s1 : mid < E
              · have s1z : (mid : Int) < (E : Int) := by omega
                by_cases s2 : E < b
                · have s2z : (E : Int) < (b : Int) := by omega
                  have hc1 := rotate (P := P) k L F94 e94 F92 enc g cb blk off cap st m E d0 d w0 wr R (by omega) S1.out (by omega) (by omega) (by omega) (by omega)
                  clear S1
                  go_wp2_with (go_at_fn 114; refine hc1.mono ?_; rintro e w1 ⟨rfl, d1, hro, S2⟩)
                  have hHX := HAL.out d1 (Or.inl hro)
                  have HX1 : Aside _ := hHX.2.1
                  have HX2 : Aside _ := hHX.2.2
                  have hH := hHX.1
                  clear hHX
                  have z1 : d1.size = d.size := hH.2.1
                  have eq2 : st = mid := by omega
                  have k2 := hH.1.h1
                  first | rw [← eq2] at k2 | rw [eq2] at k2
                  clear eq2
                  have K2 : Aside (PermIn a mid d1 d1 ∧ SortedIn lt a mid d1) := ⟨permIn_refl _ _ _, k2⟩
                  have HH : Aside _ := hH
                  clear hH
                  have z2 : d1.size = d.size := by first | exact K2.out.1.1.trans z1 | exact K2.out.1.1
                  have kp : ∀ x, mid ≤ x → d1[x]! = d1[x]! := fun x hx => K2.out.1.2.1 x (by omega)
                  have t3 : SortedIn lt mid E d1 := fun x y h1 h2 h3 => by rw [kp x (by omega), kp y (by omega)]; exact HH.out.1.h3 x y h1 h2 h3
                  have t4 : SortedIn lt E b d1 := fun x y h1 h2 h3 => by rw [kp x (by omega), kp y (by omega)]; exact HH.out.1.h4 x y h1 h2 h3
                  have t5 : Cr Q mid E b d1 := fun x y h1 h2 h3 h4 => by rw [kp x (by omega), kp y (by omega)]; exact HX2.out x y h1 h2 h3 h4
                  clear kp
                  have hc3 := IHA.out mid E b (by omega) (by omega) (by omega) (by omega) d1 _ z2 S2 t3 t4 t5
                  go_wp2_with (go_at_fn 91; refine hc3.mono ?_; rintro e w3 ⟨rfl, d3, hp3, hs3, S4⟩)
                  have K3 : Aside (PermIn mid b d1 d3 ∧ SortedIn lt mid b d3) := ⟨hp3, hs3⟩
                  have FF := sym_fin hb (by omega) (by omega) HH.out K2.out K3.out
                  first | (go_end0; exact ⟨rfl, _, FF.1, FF.2, S4⟩) | ((try simp only [Exit.inBlock, Exit.then]); refine bodyPost_ret (results_none rfl _ _ _) rfl ?_; exact ⟨rfl, _, FF.1, FF.2, S4⟩)
                · have s2z : ¬ (E : Int) < (b : Int) := by omega
                  have hc1 := rotate (P := P) k L F94 e94 F92 enc g cb blk off cap st m E d0 d w0 wr R (by omega) S1.out (by omega) (by omega) (by omega) (by omega)
                  clear S1
                  go_wp2_with (go_at_fn 114; refine hc1.mono ?_; rintro e w1 ⟨rfl, d1, hro, S2⟩)
                  have hHX := HAL.out d1 (Or.inl hro)
                  have HX1 : Aside _ := hHX.2.1
                  have HX2 : Aside _ := hHX.2.2
                  have hH := hHX.1
                  clear hHX
                  have z1 : d1.size = d.size := hH.2.1
                  have eq2 : st = mid := by omega
                  have k2 := hH.1.h1
                  first | rw [← eq2] at k2 | rw [eq2] at k2
                  clear eq2
                  have K2 : Aside (PermIn a mid d1 d1 ∧ SortedIn lt a mid d1) := ⟨permIn_refl _ _ _, k2⟩
                  have HH : Aside _ := hH
                  clear hH
                  have z2 : d1.size = d.size := by first | exact K2.out.1.1.trans z1 | exact K2.out.1.1
                  have kp : ∀ x, mid ≤ x → d1[x]! = d1[x]! := fun x hx => K2.out.1.2.1 x (by omega)
                  have t3 : SortedIn lt mid E d1 := fun x y h1 h2 h3 => by rw [kp x (by omega), kp y (by omega)]; exact HH.out.1.h3 x y h1 h2 h3
                  have t4 : SortedIn lt E b d1 := fun x y h1 h2 h3 => by rw [kp x (by omega), kp y (by omega)]; exact HH.out.1.h4 x y h1 h2 h3
                  clear kp
                  have eq3 : E = b := by omega
                  have K3 : Aside (PermIn mid b d1 d1 ∧ SortedIn lt mid b d1) := ⟨permIn_refl _ _ _, by first | (rw [← eq3] at t3; exact t3) | (rw [eq3] at t3; exact t3)⟩
                  clear eq3
                  try go_wp2
                  have FF := sym_fin hb (by omega) (by omega) HH.out K2.out K3.out
                  first | (go_end0; exact ⟨rfl, _, FF.1, FF.2, S2⟩) | ((try simp only [Exit.inBlock, Exit.then]); refine bodyPost_ret (results_none rfl _ _ _) rfl ?_; exact ⟨rfl, _, FF.1, FF.2, S2⟩)
              · have s1z : ¬ (mid : Int) < (E : Int) := by omega
                have hc1 := rotate (P := P) k L F94 e94 F92 enc g cb blk off cap st m E d0 d w0 wr R (by omega) S1.out (by omega) (by omega) (by omega) (by omega)
                clear S1
                go_wp2_with (go_at_fn 114; refine hc1.mono ?_; rintro e w1 ⟨rfl, d1, hro, S2⟩)
                have hHX := HAL.out d1 (Or.inl hro)
                have HX1 : Aside _ := hHX.2.1
                have HX2 : Aside _ := hHX.2.2
                have hH := hHX.1
                clear hHX
                have z1 : d1.size = d.size := hH.2.1
                have eq2 : st = mid := by omega
                have k2 := hH.1.h1
                first | rw [← eq2] at k2 | rw [eq2] at k2
                clear eq2
                have K2 : Aside (PermIn a mid d1 d1 ∧ SortedIn lt a mid d1) := ⟨permIn_refl _ _ _, k2⟩
                have HH : Aside _ := hH
                clear hH
                have z2 : d1.size = d.size := by first | exact K2.out.1.1.trans z1 | exact K2.out.1.1
                have kp : ∀ x, mid ≤ x → d1[x]! = d1[x]! := fun x hx => K2.out.1.2.1 x (by omega)
                have t3 : SortedIn lt mid E d1 := fun x y h1 h2 h3 => by rw [kp x (by omega), kp y (by omega)]; exact HH.out.1.h3 x y h1 h2 h3
                have t4 : SortedIn lt E b d1 := fun x y h1 h2 h3 => by rw [kp x (by omega), kp y (by omega)]; exact HH.out.1.h4 x y h1 h2 h3
                clear kp
                have eq3 : mid = E := by omega
                have K3 : Aside (PermIn mid b d1 d1 ∧ SortedIn lt mid b d1) := ⟨permIn_refl _ _ _, by first | (rw [← eq3] at t4; exact t4) | (rw [eq3] at t4; exact t4)⟩
                clear eq3
                try go_wp2
                have FF := sym_fin hb (by omega) (by omega) HH.out K2.out K3.out
                first | (go_end0; exact ⟨rfl, _, FF.1, FF.2, S2⟩) | ((try simp only [Exit.inBlock, Exit.then]); refine bodyPost_ret (results_none rfl _ _ _) rfl ?_; exact ⟨rfl, _, FF.1, FF.2, S2⟩)
          · have q1z : ¬ (a : Int) < (st : Int) := by omega
            by_cases s1 : mid < E
            · have s1z : (mid : Int) < (E : Int) := by omega
              by_cases s2 : E < b
              · have s2z : (E : Int) < (b : Int) := by omega
                have hc1 := rotate (P := P) k L F94 e94 F92 enc g cb blk off cap st m E d0 d w0 wr R (by omega) S1.out (by omega) (by omega) (by omega) (by omega)
                clear S1
                go_wp2_with (go_at_fn 114; refine hc1.mono ?_; rintro e w1 ⟨rfl, d1, hro, S2⟩)
                have hHX := HAL.out d1 (Or.inl hro)
                have HX1 : Aside _ := hHX.2.1
                have HX2 : Aside _ := hHX.2.2
                have hH := hHX.1
                clear hHX
                have z1 : d1.size = d.size := hH.2.1
                have eq2 : a = st := by omega
                have k2 := hH.1.h2
                first | rw [← eq2] at k2 | rw [eq2] at k2
                clear eq2
                have K2 : Aside (PermIn a mid d1 d1 ∧ SortedIn lt a mid d1) := ⟨permIn_refl _ _ _, k2⟩
                have HH : Aside _ := hH
                clear hH
                have z2 : d1.size = d.size := by first | exact K2.out.1.1.trans z1 | exact K2.out.1.1
                have kp : ∀ x, mid ≤ x → d1[x]! = d1[x]! := fun x hx => K2.out.1.2.1 x (by omega)
                have t3 : SortedIn lt mid E d1 := fun x y h1 h2 h3 => by rw [kp x (by omega), kp y (by omega)]; exact HH.out.1.h3 x y h1 h2 h3
                have t4 : SortedIn lt E b d1 := fun x y h1 h2 h3 => by rw [kp x (by omega), kp y (by omega)]; exact HH.out.1.h4 x y h1 h2 h3
                have t5 : Cr Q mid E b d1 := fun x y h1 h2 h3 h4 => by rw [kp x (by omega), kp y (by omega)]; exact HX2.out x y h1 h2 h3 h4
                clear kp
                have hc3 := IHA.out mid E b (by omega) (by omega) (by omega) (by omega) d1 _ z2 S2 t3 t4 t5
                go_wp2_with (go_at_fn 91; refine hc3.mono ?_; rintro e w3 ⟨rfl, d3, hp3, hs3, S4⟩)
                have K3 : Aside (PermIn mid b d1 d3 ∧ SortedIn lt mid b d3) := ⟨hp3, hs3⟩
                have FF := sym_fin hb (by omega) (by omega) HH.out K2.out K3.out
                first | (go_end0; exact ⟨rfl, _, FF.1, FF.2, S4⟩) | ((try simp only [Exit.inBlock, Exit.then]); refine bodyPost_ret (results_none rfl _ _ _) rfl ?_; exact ⟨rfl, _, FF.1, FF.2, S4⟩)
              · have s2z : ¬ (E : Int) < (b : Int) := by omega
                have hc1 := rotate (P := P) k L F94 e94 F92 enc g cb blk off cap st m E d0 d w0 wr R (by omega) S1.out (by omega) (by omega) (by omega) (by omega)
                clear S1
                go_wp2_with (go_at_fn 114; refine hc1.mono ?_; rintro e w1 ⟨rfl, d1, hro, S2⟩)
                have hHX := HAL.out d1 (Or.inl hro)
                have HX1 : Aside _ := hHX.2.1
                have HX2 : Aside _ := hHX.2.2
                have hH := hHX.1
                clear hHX
                have z1 : d1.size = d.size := hH.2.1
                have eq2 : a = st := by omega
                have k2 := hH.1.h2
                first | rw [← eq2] at k2 | rw [eq2] at k2
                clear eq2
                have K2 : Aside (PermIn a mid d1 d1 ∧ SortedIn lt a mid d1) := ⟨permIn_refl _ _ _, k2⟩
                have HH : Aside _ := hH
                clear hH
                have z2 : d1.size = d.size := by first | exact K2.out.1.1.trans z1 | exact K2.out.1.1
                have kp : ∀ x, mid ≤ x → d1[x]! = d1[x]! := fun x hx => K2.out.1.2.1 x (by omega)
                have t3 : SortedIn lt mid E d1 := fun x y h1 h2 h3 => by rw [kp x (by omega), kp y (by omega)]; exact HH.out.1.h3 x y h1 h2 h3
                have t4 : SortedIn lt E b d1 := fun x y h1 h2 h3 => by rw [kp x (by omega), kp y (by omega)]; exact HH.out.1.h4 x y h1 h2 h3
                clear kp
                have eq3 : E = b := by omega
                have K3 : Aside (PermIn mid b d1 d1 ∧ SortedIn lt mid b d1) := ⟨permIn_refl _ _ _, by first | (rw [← eq3] at t3; exact t3) | (rw [eq3] at t3; exact t3)⟩
                clear eq3
                try go_wp2
                have FF := sym_fin hb (by omega) (by omega) HH.out K2.out K3.out
                first | (go_end0; exact ⟨rfl, _, FF.1, FF.2, S2⟩) | ((try simp only [Exit.inBlock, Exit.then]); refine bodyPost_ret (results_none rfl _ _ _) rfl ?_; exact ⟨rfl, _, FF.1, FF.2, S2⟩)
            · have s1z : ¬ (mid : Int) < (E : Int) := by omega
              have hc1 := rotate (P := P) k L F94 e94 F92 enc g cb blk off cap st m E d0 d w0 wr R (by omega) S1.out (by omega) (by omega) (by omega) (by omega)
              clear S1
              go_wp2_with (go_at_fn 114; refine hc1.mono ?_; rintro e w1 ⟨rfl, d1, hro, S2⟩)
              have hHX := HAL.out d1 (Or.inl hro)
              have HX1 : Aside _ := hHX.2.1
              have HX2 : Aside _ := hHX.2.2
              have hH := hHX.1
              clear hHX
              have z1 : d1.size = d.size := hH.2.1
              have eq2 : a = st := by omega
              have k2 := hH.1.h2
              first | rw [← eq2] at k2 | rw [eq2] at k2
              clear eq2
              have K2 : Aside (PermIn a mid d1 d1 ∧ SortedIn lt a mid d1) := ⟨permIn_refl _ _ _, k2⟩
              have HH : Aside _ := hH
              clear hH
              have z2 : d1.size = d.size := by first | exact K2.out.1.1.trans z1 | exact K2.out.1.1
              have kp : ∀ x, mid ≤ x → d1[x]! = d1[x]! := fun x hx => K2.out.1.2.1 x (by omega)
              have t3 : SortedIn lt mid E d1 := fun x y h1 h2 h3 => by rw [kp x (by omega), kp y (by omega)]; exact HH.out.1.h3 x y h1 h2 h3
              have t4 : SortedIn lt E b d1 := fun x y h1 h2 h3 => by rw [kp x (by omega), kp y (by omega)]; exact HH.out.1.h4 x y h1 h2 h3
              clear kp
              have eq3 : mid = E := by omega
              have K3 : Aside (PermIn mid b d1 d1 ∧ SortedIn lt mid b d1) := ⟨permIn_refl _ _ _, by first | (rw [← eq3] at t4; exact t4) | (rw [eq3] at t4; exact t4)⟩
              clear eq3
              try go_wp2
              have FF := sym_fin hb (by omega) (by omega) HH.out K2.out K3.out
              first | (go_end0; exact ⟨rfl, _, FF.1, FF.2, S2⟩) | ((try simp only [Exit.inBlock, Exit.then]); refine bodyPost_ret (results_none rfl _ _ _) rfl ?_; exact ⟨rfl, _, FF.1, FF.2, S2⟩)
        · have p2z : ¬ (m : Int) < (E : Int) := by omega
          by_cases q1 : a < st
          · have q1z : (a : Int) < (st : Int) := by omega
            by_cases q2 : st < mid
            · have q2z : (st : Int) < (mid : Int) := by omega
              by_cases s1 : mid < E
              · have s1z : (mid : Int) < (E : Int) := by omega
                by_cases s2 : E < b
                · have s2z : (E : Int) < (b : Int) := by omega
                  exact absurd q2 (by have := HE.out; omega)
                · have s2z : ¬ (E : Int) < (b : Int) := by omega
                  exact absurd q2 (by have := HE.out; omega)
              · have s1z : ¬ (mid : Int) < (E : Int) := by omega
                exact absurd q2 (by have := HE.out; omega)
            · have q2z : ¬ (st : Int) < (mid : Int) := by omega
              by_cases s1 : mid < E
              · have s1z : (mid : Int) < (E : Int) := by omega
                by_cases s2 : E < b
                · have s2z : (E : Int) < (b : Int) := by omega
                  have hHX := HAL.out d (Or.inr ⟨rfl, by omega⟩)
                  have HX1 : Aside _ := hHX.2.1
                  have HX2 : Aside _ := hHX.2.2
                  have hH := hHX.1
                  clear hHX
                  have z1 : d.size = d.size := hH.2.1
                  have eq2 : st = mid := by omega
                  have k2 := hH.1.h1
                  first | rw [← eq2] at k2 | rw [eq2] at k2
                  clear eq2
                  have K2 : Aside (PermIn a mid d d ∧ SortedIn lt a mid d) := ⟨permIn_refl _ _ _, k2⟩
                  have HH : Aside _ := hH
                  clear hH
                  have z2 : d.size = d.size := by first | exact K2.out.1.1.trans z1 | exact K2.out.1.1
                  have kp : ∀ x, mid ≤ x → d[x]! = d[x]! := fun x hx => K2.out.1.2.1 x (by omega)
                  have t3 : SortedIn lt mid E d := fun x y h1 h2 h3 => by rw [kp x (by omega), kp y (by omega)]; exact HH.out.1.h3 x y h1 h2 h3
                  have t4 : SortedIn lt E b d := fun x y h1 h2 h3 => by rw [kp x (by omega), kp y (by omega)]; exact HH.out.1.h4 x y h1 h2 h3
                  have t5 : Cr Q mid E b d := fun x y h1 h2 h3 h4 => by rw [kp x (by omega), kp y (by omega)]; exact HX2.out x y h1 h2 h3 h4
                  clear kp
                  have hc3 := IHA.out mid E b (by omega) (by omega) (by omega) (by omega) d _ z2 S1.out t3 t4 t5
                  go_wp2_with (go_at_fn 91; refine hc3.mono ?_; rintro e w3 ⟨rfl, d3, hp3, hs3, S4⟩)
                  have K3 : Aside (PermIn mid b d d3 ∧ SortedIn lt mid b d3) := ⟨hp3, hs3⟩
                  have FF := sym_fin hb (by omega) (by omega) HH.out K2.out K3.out
                  first | (go_end0; exact ⟨rfl, _, FF.1, FF.2, S4⟩) | ((try simp only [Exit.inBlock, Exit.then]); refine bodyPost_ret (results_none rfl _ _ _) rfl ?_; exact ⟨rfl, _, FF.1, FF.2, S4⟩)
                · have s2z : ¬ (E : Int) < (b : Int) := by omega
                  have hHX := HAL.out d (Or.inr ⟨rfl, by omega⟩)
                  have HX1 : Aside _ := hHX.2.1
                  have HX2 : Aside _ := hHX.2.2
                  have hH := hHX.1
                  clear hHX
                  have z1 : d.size = d.size := hH.2.1
                  have eq2 : st = mid := by omega
                  have k2 := hH.1.h1
                  first | rw [← eq2] at k2 | rw [eq2] at k2
                  clear eq2
                  have K2 : Aside (PermIn a mid d d ∧ SortedIn lt a mid d) := ⟨permIn_refl _ _ _, k2⟩
                  have HH : Aside _ := hH
                  clear hH
                  have z2 : d.size = d.size := by first | exact K2.out.1.1.trans z1 | exact K2.out.1.1
                  have kp : ∀ x, mid ≤ x → d[x]! = d[x]! := fun x hx => K2.out.1.2.1 x (by omega)
                  have t3 : SortedIn lt mid E d := fun x y h1 h2 h3 => by rw [kp x (by omega), kp y (by omega)]; exact HH.out.1.h3 x y h1 h2 h3
                  have t4 : SortedIn lt E b d := fun x y h1 h2 h3 => by rw [kp x (by omega), kp y (by omega)]; exact HH.out.1.h4 x y h1 h2 h3
                  clear kp
                  have eq3 : E = b := by omega
                  have K3 : Aside (PermIn mid b d d ∧ SortedIn lt mid b d) := ⟨permIn_refl _ _ _, by first | (rw [← eq3] at t3; exact t3) | (rw [eq3] at t3; exact t3)⟩
                  clear eq3
                  try go_wp2
                  have FF := sym_fin hb (by omega) (by omega) HH.out K2.out K3.out
                  first | (go_end0; exact ⟨rfl, _, FF.1, FF.2, S1.out⟩) | ((try simp only [Exit.inBlock, Exit.then]); refine bodyPost_ret (results_none rfl _ _ _) rfl ?_; exact ⟨rfl, _, FF.1, FF.2, S1.out⟩)
              · have s1z : ¬ (mid : Int) < (E : Int) := by omega
                have hHX := HAL.out d (Or.inr ⟨rfl, by omega⟩)
                have HX1 : Aside _ := hHX.2.1
                have HX2 : Aside _ := hHX.2.2
                have hH := hHX.1
                clear hHX
                have z1 : d.size = d.size := hH.2.1
                have eq2 : st = mid := by omega
                have k2 := hH.1.h1
                first | rw [← eq2] at k2 | rw [eq2] at k2
                clear eq2
                have K2 : Aside (PermIn a mid d d ∧ SortedIn lt a mid d) := ⟨permIn_refl _ _ _, k2⟩
                have HH : Aside _ := hH
                clear hH
                have z2 : d.size = d.size := by first | exact K2.out.1.1.trans z1 | exact K2.out.1.1
                have kp : ∀ x, mid ≤ x → d[x]! = d[x]! := fun x hx => K2.out.1.2.1 x (by omega)
                have t3 : SortedIn lt mid E d := fun x y h1 h2 h3 => by rw [kp x (by omega), kp y (by omega)]; exact HH.out.1.h3 x y h1 h2 h3
                have t4 : SortedIn lt E b d := fun x y h1 h2 h3 => by rw [kp x (by omega), kp y (by omega)]; exact HH.out.1.h4 x y h1 h2 h3
                clear kp
                have eq3 : mid = E := by omega
                have K3 : Aside (PermIn mid b d d ∧ SortedIn lt mid b d) := ⟨permIn_refl _ _ _, by first | (rw [← eq3] at t4; exact t4) | (rw [eq3] at t4; exact t4)⟩
                clear eq3
                try go_wp2
                have FF := sym_fin hb (by omega) (by omega) HH.out K2.out K3.out
                first | (go_end0; exact ⟨rfl, _, FF.1, FF.2, S1.out⟩) | ((try simp only [Exit.inBlock, Exit.then]); refine bodyPost_ret (results_none rfl _ _ _) rfl ?_; exact ⟨rfl, _, FF.1, FF.2, S1.out⟩)
          · have q1z : ¬ (a : Int) < (st : Int) := by omega
            by_cases s1 : mid < E
            · have s1z : (mid : Int) < (E : Int) := by omega
              by_cases s2 : E < b
              · have s2z : (E : Int) < (b : Int) := by omega
                have hHX := HAL.out d (Or.inr ⟨rfl, by omega⟩)
                have HX1 : Aside _ := hHX.2.1
                have HX2 : Aside _ := hHX.2.2
                have hH := hHX.1
                clear hHX
                have z1 : d.size = d.size := hH.2.1
                have eq2 : a = st := by omega
                have k2 := hH.1.h2
                first | rw [← eq2] at k2 | rw [eq2] at k2
                clear eq2
                have K2 : Aside (PermIn a mid d d ∧ SortedIn lt a mid d) := ⟨permIn_refl _ _ _, k2⟩
                have HH : Aside _ := hH
                clear hH
                have z2 : d.size = d.size := by first | exact K2.out.1.1.trans z1 | exact K2.out.1.1
                have kp : ∀ x, mid ≤ x → d[x]! = d[x]! := fun x hx => K2.out.1.2.1 x (by omega)
                have t3 : SortedIn lt mid E d := fun x y h1 h2 h3 => by rw [kp x (by omega), kp y (by omega)]; exact HH.out.1.h3 x y h1 h2 h3
                have t4 : SortedIn lt E b d := fun x y h1 h2 h3 => by rw [kp x (by omega), kp y (by omega)]; exact HH.out.1.h4 x y h1 h2 h3
                have t5 : Cr Q mid E b d := fun x y h1 h2 h3 h4 => by rw [kp x (by omega), kp y (by omega)]; exact HX2.out x y h1 h2 h3 h4
                clear kp
                have hc3 := IHA.out mid E b (by omega) (by omega) (by omega) (by omega) d _ z2 S1.out t3 t4 t5
                go_wp2_with (go_at_fn 91; refine hc3.mono ?_; rintro e w3 ⟨rfl, d3, hp3, hs3, S4⟩)
                have K3 : Aside (PermIn mid b d d3 ∧ SortedIn lt mid b d3) := ⟨hp3, hs3⟩
                have FF := sym_fin hb (by omega) (by omega) HH.out K2.out K3.out
                first | (go_end0; exact ⟨rfl, _, FF.1, FF.2, S4⟩) | ((try simp only [Exit.inBlock, Exit.then]); refine bodyPost_ret (results_none rfl _ _ _) rfl ?_; exact ⟨rfl, _, FF.1, FF.2, S4⟩)
              · have s2z : ¬ (E : Int) < (b : Int) := by omega
                have hHX := HAL.out d (Or.inr ⟨rfl, by omega⟩)
                have HX1 : Aside _ := hHX.2.1
                have HX2 : Aside _ := hHX.2.2
                have hH := hHX.1
                clear hHX
                have z1 : d.size = d.size := hH.2.1
                have eq2 : a = st := by omega
                have k2 := hH.1.h2
                first | rw [← eq2] at k2 | rw [eq2] at k2
                clear eq2
                have K2 : Aside (PermIn a mid d d ∧ SortedIn lt a mid d) := ⟨permIn_refl _ _ _, k2⟩
                have HH : Aside _ := hH
                clear hH
                have z2 : d.size = d.size := by first | exact K2.out.1.1.trans z1 | exact K2.out.1.1
                have kp : ∀ x, mid ≤ x → d[x]! = d[x]! := fun x hx => K2.out.1.2.1 x (by omega)
                have t3 : SortedIn lt mid E d := fun x y h1 h2 h3 => by rw [kp x (by omega), kp y (by omega)]; exact HH.out.1.h3 x y h1 h2 h3
                have t4 : SortedIn lt E b d := fun x y h1 h2 h3 => by rw [kp x (by omega), kp y (by omega)]; exact HH.out.1.h4 x y h1 h2 h3
                clear kp
                have eq3 : E = b := by omega
                have K3 : Aside (PermIn mid b d d ∧ SortedIn lt mid b d) := ⟨permIn_refl _ _ _, by first | (rw [← eq3] at t3; exact t3) | (rw [eq3] at t3; exact t3)⟩
                clear eq3
                try go_wp2
                have FF := sym_fin hb (by omega) (by omega) HH.out K2.out K3.out
                first | (go_end0; exact ⟨rfl, _, FF.1, FF.2, S1.out⟩) | ((try simp only [Exit.inBlock, Exit.then]); refine bodyPost_ret (results_none rfl _ _ _) rfl ?_; exact ⟨rfl, _, FF.1, FF.2, S1.out⟩)
            · have s1z : ¬ (mid : Int) < (E : Int) := by omega
              have hHX := HAL.out d (Or.inr ⟨rfl, by omega⟩)
              have HX1 : Aside _ := hHX.2.1
              have HX2 : Aside _ := hHX.2.2
              have hH := hHX.1
              clear hHX
              have z1 : d.size = d.size := hH.2.1
              have eq2 : a = st := by omega
              have k2 := hH.1.h2
              first | rw [← eq2] at k2 | rw [eq2] at k2
              clear eq2
              have K2 : Aside (PermIn a mid d d ∧ SortedIn lt a mid d) := ⟨permIn_refl _ _ _, k2⟩
              have HH : Aside _ := hH
              clear hH
              have z2 : d.size = d.size := by first | exact K2.out.1.1.trans z1 | exact K2.out.1.1
              have kp : ∀ x, mid ≤ x → d[x]! = d[x]! := fun x hx => K2.out.1.2.1 x (by omega)
              have t3 : SortedIn lt mid E d := fun x y h1 h2 h3 => by rw [kp x (by omega), kp y (by omega)]; exact HH.out.1.h3 x y h1 h2 h3
              have t4 : SortedIn lt E b d := fun x y h1 h2 h3 => by rw [kp x (by omega), kp y (by omega)]; exact HH.out.1.h4 x y h1 h2 h3
              clear kp
              have eq3 : mid = E := by omega
              have K3 : Aside (PermIn mid b d d ∧ SortedIn lt mid b d) := ⟨permIn_refl _ _ _, by first | (rw [← eq3] at t4; exact t4) | (rw [eq3] at t4; exact t4)⟩
              clear eq3
              try go_wp2
              have FF := sym_fin hb (by omega) (by omega) HH.out K2.out K3.out
              first | (go_end0; exact ⟨rfl, _, FF.1, FF.2, S1.out⟩) | ((try simp only [Exit.inBlock, Exit.then]); refine bodyPost_ret (results_none rfl _ _ _) rfl ?_; exact ⟨rfl, _, FF.1, FF.2, S1.out⟩)
      · have p1z : ¬ (st : Int) < (m : Int) := by omega
        by_cases q1 : a < st
        · have q1z : (a : Int) < (st : Int) := by omega
          by_cases q2 : st < mid
          · have q2z : (st : Int) < (mid : Int) := by omega
            by_cases s1 : mid < E
            · have s1z : (mid : Int) < (E : Int) := by omega
              by_cases s2 : E < b
              · have s2z : (E : Int) < (b : Int) := by omega
                exact absurd s1 (by have := HE.out; omega)
              · have s2z : ¬ (E : Int) < (b : Int) := by omega
                exact absurd s1 (by have := HE.out; omega)
            · have s1z : ¬ (mid : Int) < (E : Int) := by omega
              have hHX := HAL.out d (Or.inr ⟨rfl, by omega⟩)
              have HX1 : Aside _ := hHX.2.1
              have HX2 : Aside _ := hHX.2.2
              have hH := hHX.1
              clear hHX
              have z1 : d.size = d.size := hH.2.1
              have hc2 := IHA.out a st mid (by omega) (by omega) (by omega) (by omega) d _ z1 S1.out hH.1.h1 hH.1.h2 HX1.out
              have HH : Aside _ := hH
              clear hH
              go_wp2_with (go_at_fn 91; refine hc2.mono ?_; rintro e w2 ⟨rfl, d2, hp2, hs2, S3⟩)
              have K2 : Aside (PermIn a mid d d2 ∧ SortedIn lt a mid d2) := ⟨hp2, hs2⟩
              have z2 : d2.size = d.size := by first | exact K2.out.1.1.trans z1 | exact K2.out.1.1
              have kp : ∀ x, mid ≤ x → d2[x]! = d[x]! := fun x hx => K2.out.1.2.1 x (by omega)
              have t3 : SortedIn lt mid E d2 := fun x y h1 h2 h3 => by rw [kp x (by omega), kp y (by omega)]; exact HH.out.1.h3 x y h1 h2 h3
              have t4 : SortedIn lt E b d2 := fun x y h1 h2 h3 => by rw [kp x (by omega), kp y (by omega)]; exact HH.out.1.h4 x y h1 h2 h3
              clear kp
              have eq3 : mid = E := by omega
              have K3 : Aside (PermIn mid b d2 d2 ∧ SortedIn lt mid b d2) := ⟨permIn_refl _ _ _, by first | (rw [← eq3] at t4; exact t4) | (rw [eq3] at t4; exact t4)⟩
              clear eq3
              try go_wp2
              have FF := sym_fin hb (by omega) (by omega) HH.out K2.out K3.out
              first | (go_end0; exact ⟨rfl, _, FF.1, FF.2, S3⟩) | ((try simp only [Exit.inBlock, Exit.then]); refine bodyPost_ret (results_none rfl _ _ _) rfl ?_; exact ⟨rfl, _, FF.1, FF.2, S3⟩)
          · have q2z : ¬ (st : Int) < (mid : Int) := by omega
            by_cases s1 : mid < E
            · have s1z : (mid : Int) < (E : Int) := by omega
              by_cases s2 : E < b
              · have s2z : (E : Int) < (b : Int) := by omega
                exact absurd s1 (by have := HE.out; omega)
              · have s2z : ¬ (E : Int) < (b : Int) := by omega
                exact absurd s1 (by have := HE.out; omega)
            · have s1z : ¬ (mid : Int) < (E : Int) := by omega
              have hHX := HAL.out d (Or.inr ⟨rfl, by omega⟩)
              have HX1 : Aside _ := hHX.2.1
              have HX2 : Aside _ := hHX.2.2
              have hH := hHX.1
              clear hHX
              have z1 : d.size = d.size := hH.2.1
              have eq2 : st = mid := by omega
              have k2 := hH.1.h1
              first | rw [← eq2] at k2 | rw [eq2] at k2
              clear eq2
              have K2 : Aside (PermIn a mid d d ∧ SortedIn lt a mid d) := ⟨permIn_refl _ _ _, k2⟩
              have HH : Aside _ := hH
              clear hH
              have z2 : d.size = d.size := by first | exact K2.out.1.1.trans z1 | exact K2.out.1.1
              have kp : ∀ x, mid ≤ x → d[x]! = d[x]! := fun x hx => K2.out.1.2.1 x (by omega)
              have t3 : SortedIn lt mid E d := fun x y h1 h2 h3 => by rw [kp x (by omega), kp y (by omega)]; exact HH.out.1.h3 x y h1 h2 h3
              have t4 : SortedIn lt E b d := fun x y h1 h2 h3 => by rw [kp x (by omega), kp y (by omega)]; exact HH.out.1.h4 x y h1 h2 h3
              clear kp
              have eq3 : mid = E := by omega
              have K3 : Aside (PermIn mid b d d ∧ SortedIn lt mid b d) := ⟨permIn_refl _ _ _, by first | (rw [← eq3] at t4; exact t4) | (rw [eq3] at t4; exact t4)⟩
              clear eq3
              try go_wp2
              have FF := sym_fin hb (by omega) (by omega) HH.out K2.out K3.out
              first | (go_end0; exact ⟨rfl, _, FF.1, FF.2, S1.out⟩) | ((try simp only [Exit.inBlock, Exit.then]); refine bodyPost_ret (results_none rfl _ _ _) rfl ?_; exact ⟨rfl, _, FF.1, FF.2, S1.out⟩)
        · have q1z : ¬ (a : Int) < (st : Int) := by omega
          by_cases s1 : mid < E
          · have s1z : (mid : Int) < (E : Int) := by omega
            by_cases s2 : E < b
            · have s2z : (E : Int) < (b : Int) := by omega
              exact absurd s1 (by have := HE.out; omega)
            · have s2z : ¬ (E : Int) < (b : Int) := by omega
              exact absurd s1 (by have := HE.out; omega)
          · have s1z : ¬ (mid : Int) < (E : Int) := by omega
            have hHX := HAL.out d (Or.inr ⟨rfl, by omega⟩)
            have HX1 : Aside _ := hHX.2.1
            have HX2 : Aside _ := hHX.2.2
            have hH := hHX.1
            clear hHX
            have z1 : d.size = d.size := hH.2.1
            have eq2 : a = st := by omega
            have k2 := hH.1.h2
            first | rw [← eq2] at k2 | rw [eq2] at k2
            clear eq2
            have K2 : Aside (PermIn a mid d d ∧ SortedIn lt a mid d) := ⟨permIn_refl _ _ _, k2⟩
            have HH : Aside _ := hH
            clear hH
            have z2 : d.size = d.size := by first | exact K2.out.1.1.trans z1 | exact K2.out.1.1
            have kp : ∀ x, mid ≤ x → d[x]! = d[x]! := fun x hx => K2.out.1.2.1 x (by omega)
            have t3 : SortedIn lt mid E d := fun x y h1 h2 h3 => by rw [kp x (by omega), kp y (by omega)]; exact HH.out.1.h3 x y h1 h2 h3
            have t4 : SortedIn lt E b d := fun x y h1 h2 h3 => by rw [kp x (by omega), kp y (by omega)]; exact HH.out.1.h4 x y h1 h2 h3
            clear kp
            have eq3 : mid = E := by omega
            have K3 : Aside (PermIn mid b d d ∧ SortedIn lt mid b d) := ⟨permIn_refl _ _ _, by first | (rw [← eq3] at t4; exact t4) | (rw [eq3] at t4; exact t4)⟩
            clear eq3
            try go_wp2
            have FF := sym_fin hb (by omega) (by omega) HH.out K2.out K3.out
            first | (go_end0; exact ⟨rfl, _, FF.1, FF.2, S1.out⟩) | ((try simp only [Exit.inBlock, Exit.then]); refine bodyPost_ret (results_none rfl _ _ _) rfl ?_; exact ⟨rfl, _, FF.1, FF.2, S1.out⟩)
end St
end Go.Proofs.YtemenlcigengeaaGreatDoor
