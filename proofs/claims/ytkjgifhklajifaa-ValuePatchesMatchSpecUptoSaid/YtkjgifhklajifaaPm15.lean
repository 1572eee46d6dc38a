/- hasNone of package value. Printed by gen_vhn.py. seen and spare of package value. Printed by gen_vchk.py. -/
import Derived.Test.YtkjgifhklajifaaPm02
import Derived.Test.YtkjgifhklajifaaPm03
import Derived.Test.YtkjgifhklajifaaPm01
import Derived.Deep.Cut
import Derived.Deep.DeepCutAuto
namespace Go.Proofs.Ytkjgifhklajifaa
open Go.RowKit
namespace Fd
open _root_.Go.Proofs.Ytkjgifhklajifaa.Rw (All2 All2.get All2.length)
theorem ret_boolH {a b : Bool} (h : a = b) : Ending.returned (.bool a) = .returned (.bool b) := by rw [h]
theorem noneL_any : ∀ l : List V, noneL l = l.any noneV
  | [] => rfl
  | x :: r => by rw [noneL, List.any_cons, noneL_any r]
def nf (f : F) : Bool := decide (kind (vlF f) = 0) || noneV (vlF f)
theorem noneFs_any : ∀ l : List F, noneFs l = l.any nf
  | [] => rfl
  | .mk nm x :: r => by rw [noneFs, List.any_cons, noneFs_any r]; rfl
def HnAt (x : V) : Prop := ∀ (cs : List Value) (w : World), RepV w x cs → Calls Try.prog 14 #[.agg cs.toArray] w fun e w' => e = .returned (.bool (noneV x)) ∧ Below w.heap.size w w'
theorem rep_kindH {w : World} {y : V} {k n : Int} {s : ByteArray} {v1 v2 : Value} (h : RepV w y [.int .i64 k, .int .i64 n, .string s, v1, v2]) : kind y = k := by
  obtain ⟨k', n', s', is, fs⟩ := y
  simp only [RepV] at h
  obtain ⟨_, _, _, _, e, _⟩ := h
  injection e with e1 _
  injection e1 with _ e2
  exact e2.symm
theorem any_take {α : Type} {p : α → Bool} {l : List α} {k : Nat} {x : α} (h : l[k]? = some x) (h0 : (l.take k).any p = false) (hx : p x = false) : (l.take (k + 1)).any p = false := by
  obtain ⟨hk, rfl⟩ := List.getElem?_eq_some_iff.1 h
  rw [List.take_succ_eq_append_getElem hk, List.any_append, h0]; simp [hx]
def IxPost (b : Bool) (w : World) (e : Ending) (w' : World) : Prop := ∃ z : Int, e = .returned (.int .i64 z) ∧ decide (0 ≤ z) = b ∧ Below w.heap.size w w'
set_option maxRecDepth 100000 in
set_option maxHeartbeats 8000000 in
theorem hn1_at (f : F) (hv : HnAt (vlF f)) (cs : List Value) (w : World) (h : RepF w f cs) : Calls Try.prog 31 #[.agg cs.toArray] w fun e w' => e = .returned (.bool (nf f)) ∧ Below w.heap.size w w' := by
  obtain ⟨nm, y⟩ := f
  simp only [RepF] at h
  obtain ⟨c, rfl, _, hy⟩ := h
  obtain ⟨k, n, s, a1, m1, q1, a2, m2, q2, rfl⟩ := V5 hy
  have HK := Lib.hid (rep_kindH hy)
  have HV := Lib.hid hv
  have HY := Lib.hid hy
  clear hy hv
  go_enter Try.func31, Try.ntmps31
  go_upto_region 1 with (fail)
  refine wp_box1 fun W hsz hbW hA => ?_
  have a1' : W.cell? ⟨w.heap.size, 1, none⟩ = some (.int .i64 k) := hA.2 1
  have a2' : W.cell? ⟨w.heap.size, 2, none⟩ = some (.int .i64 n) := hA.2 2
  have a3' : W.cell? ⟨w.heap.size, 3, none⟩ = some (.string s) := hA.2 3
  have a4' : W.cell? ⟨w.heap.size, 4, none⟩ = some (.slice a1 m1 q1) := hA.2 4
  have a5' : W.cell? ⟨w.heap.size, 5, none⟩ = some (.slice a2 m2 q2) := hA.2 5
  clear hsz hA
  by_cases h0 : k = 0
  · subst h0
    have HF : Hid (nf (F.mk nm y) = true) := Lib.hid (by unfold nf; rw [decide_eq_true (show kind (vlF (F.mk nm y)) = 0 from HK.out)]; rfl)
    go_wp2
    go_ret
    exact ⟨ret_boolH HF.out.symm, hbW⟩
  · have h0b : (k == 0) = false := by simpa using h0
    have HF : Hid (nf (F.mk nm y) = noneV y) := Lib.hid (by unfold nf; rw [decide_eq_false (show ¬ kind (vlF (F.mk nm y)) = 0 from fun e => h0 (HK.out.symm.trans e))]; rfl)
    go_wp2_with fail
    refine (HV.out _ W (RepV.ext hbW HY.out)).mono ?_
    rintro e w2 ⟨rfl, hb2⟩
    show _
    obtain ⟨b, hb⟩ : ∃ b, noneV (vlF (F.mk nm y)) = b := ⟨_, rfl⟩
    rw [hb]
    have HB : Hid (nf (F.mk nm y) = b) := Lib.hid (HF.out.trans hb)
    clear hb HF
    go_wp2
    go_ret
    exact ⟨ret_boolH HB.out.symm, ext_trans hbW hb2⟩
set_option maxRecDepth 100000 in
set_option maxHeartbeats 8000000 in
theorem hnIx (l : List V) (hI : ∀ x ∈ l, HnAt x) (a : Option Addr) (c : Nat) (E : List (List Value)) (w : World) (hS : Sl w (.slice a l.length c) l.length E.flatten) (hE : All2 (RepV w) l E) :
    Calls Try.prog 50 #[.slice a l.length c, .func (.func 14) #[] #[]] w (IxPost (l.any noneV) w) := by
  have hl : (l.length : Int) ≤ 9223372036854775807 := by obtain ⟨_, _, hv, h1, h2, _⟩ := hS; cases hv; unfold maxLen at h2; omega
  have HS := Lib.hid hS
  have HE := Lib.hid hE
  have HI := Lib.hid hI
  clear hS hE hI
  go_enter Try.func50, Try.ntmps50
  go_wp2
  go_loopw [8] (fun i wr => ∃ k : Nat, k ≤ l.length ∧ i = .int .i64 k ∧ Hid ((l.take k).any noneV = false) ∧ Below w.heap.size w wr) (fun i _ => l.length - (intOf i).toNat)
  case atStart => exact ⟨0, by omega, rfl, Lib.hid rfl, Below.refl _ _⟩
  case round =>
    obtain ⟨k, hk, rfl, HK, hbr⟩ := hrel
    by_cases hlt : k < l.length
    · obtain ⟨x, hx⟩ : ∃ x, l[k]? = some x := ⟨_, List.getElem?_eq_getElem hlt⟩
      obtain ⟨cx, hcx, hrx0⟩ := All2.get HE.out hx
      have hrx := RepV.ext hbr hrx0
      obtain ⟨p, o, rfl, _, hcell⟩ := sl_elem (HS.out.ext hbr) (all_len (fun _ _ => RepV.len) HE.out) (by omega) hcx
      have hk0 : (0 : Int) ≤ (k : Int) := Int.natCast_nonneg _
      have hk1 : (k : Int) < (l.length : Int) := by omega
      have HM := Lib.hid (List.mem_of_getElem? hx)
      have HG := Lib.hid hx
      obtain ⟨kb, hkb⟩ : ∃ b, noneV x = b := ⟨_, rfl⟩
      have HC : Hid (Calls Try.prog 14 #[.agg cx.toArray] wr fun e w' => e = .returned (.bool kb) ∧ Below wr.heap.size wr w') := Lib.hid (by have h9 := HI.out x HM.out cx wr hrx; first | (rw [hkb] at h9; exact h9) | (rw [← hkb]; exact h9))
      have HKB := Lib.hid hkb
      obtain ⟨k0, n0, s0, a1, m1, q1, a2, m2, q2, rfl⟩ := V5 hrx
      have z0 := hcell 0 _ rfl
      have z1 := hcell 1 _ rfl
      have z2 := hcell 2 _ rfl
      have z3 := hcell 3 _ rfl
      have z4 := hcell 4 _ rfl
      simp only [← Nat.add_assoc, Nat.add_zero] at z0 z1 z2 z3 z4
      clear hcx hrx0 hrx hcell hx hkb
      go_wp2_with fail
      refine HC.out.mono ?_
      rintro e w2 ⟨rfl, hb2⟩
      have hb3 := ext_trans hbr hb2
      clear z0 z1 z2 z3 z4 HC hb2 hbr
      cases kb
      · have HK2 := Lib.hid (any_take HG.out HK.out HKB.out)
        go_wp2
        go_roundw
        case rel => exact ⟨k + 1, by omega, by go_num, HK2, hb3⟩
        case measure => simp [intOf]; omega
      · have HT : Hid (l.any noneV = true) := Lib.hid (List.any_eq_true.2 ⟨_, HM.out, HKB.out⟩)
        go_wp2
        go_ret
        exact ⟨k, rfl, (decide_eq_true hk0).trans HT.out.symm, hb3⟩
    · obtain rfl : k = l.length := by omega
      have HT : Hid (l.any noneV = false) := Lib.hid (by have := HK.out; rwa [List.take_length] at this)
      go_wp2
      go_ret
      exact ⟨-1, rfl, by rw [HT.out]; rfl, hbr⟩
theorem hnIx_c (l : List V) (hI : ∀ x ∈ l, HnAt x) (a : Option Addr) (c : Nat) (E : List (List Value)) (w : World) (hS : Sl w (.slice a l.length c) l.length E.flatten) (hE : All2 (RepV w) l E) :
    Calls Try.prog 29 #[.slice a l.length c, .func (.func 14) #[] #[]] w fun e w' => e = .returned (.bool (l.any noneV)) ∧ Below w.heap.size w w' := by
  have HX := Lib.hid (hnIx l hI a c E w hS hE)
  clear hS hE hI
  obtain ⟨b, hb⟩ : ∃ b, l.any noneV = b := ⟨_, rfl⟩
  rw [hb] at HX ⊢
  clear hb
  go_enter Try.func29, Try.ntmps29
  go_wp2_with fail
  refine HX.out.mono ?_
  rintro e w2 ⟨z, rfl, hz, hb2⟩
  have HZ := Lib.hid hz
  clear hz HX
  go_wp2
  go_ret
  exact ⟨ret_boolH HZ.out, hb2⟩
set_option maxRecDepth 100000 in
set_option maxHeartbeats 8000000 in
theorem hnFx (l : List F) (hI : ∀ x ∈ l, HnAt (vlF x)) (a : Option Addr) (c : Nat) (E : List (List Value)) (w : World) (hS : Sl w (.slice a l.length c) l.length E.flatten) (hE : All2 (RepF w) l E) :
    Calls Try.prog 51 #[.slice a l.length c, .func (.func 31) #[] #[]] w (IxPost (l.any nf) w) := by
  have hl : (l.length : Int) ≤ 9223372036854775807 := by obtain ⟨_, _, hv, h1, h2, _⟩ := hS; cases hv; unfold maxLen at h2; omega
  have HS := Lib.hid hS
  have HE := Lib.hid hE
  have HI := Lib.hid hI
  clear hS hE hI
  go_enter Try.func51, Try.ntmps51
  go_wp2
  go_loopw [8] (fun i wr => ∃ k : Nat, k ≤ l.length ∧ i = .int .i64 k ∧ Hid ((l.take k).any nf = false) ∧ Below w.heap.size w wr) (fun i _ => l.length - (intOf i).toNat)
  case atStart => exact ⟨0, by omega, rfl, Lib.hid rfl, Below.refl _ _⟩
  case round =>
    obtain ⟨k, hk, rfl, HK, hbr⟩ := hrel
    by_cases hlt : k < l.length
    · obtain ⟨x, hx⟩ : ∃ x, l[k]? = some x := ⟨_, List.getElem?_eq_getElem hlt⟩
      obtain ⟨cx, hcx, hrx0⟩ := All2.get HE.out hx
      have hrx := RepF.ext hbr hrx0
      obtain ⟨p, o, rfl, _, hcell⟩ := sl_elem (HS.out.ext hbr) (all_len (fun _ _ => RepF.len) HE.out) (by omega) hcx
      have hk0 : (0 : Int) ≤ (k : Int) := Int.natCast_nonneg _
      have hk1 : (k : Int) < (l.length : Int) := by omega
      have HM := Lib.hid (List.mem_of_getElem? hx)
      have HG := Lib.hid hx
      obtain ⟨kb, hkb⟩ : ∃ b, nf x = b := ⟨_, rfl⟩
      have HC : Hid (Calls Try.prog 31 #[.agg cx.toArray] wr fun e w' => e = .returned (.bool kb) ∧ Below wr.heap.size wr w') := Lib.hid (by have h9 := hn1_at x (HI.out x HM.out) cx wr hrx; first | (rw [hkb] at h9; exact h9) | (rw [← hkb]; exact h9))
      have HKB := Lib.hid hkb
      have hrx2 := hrx
      obtain ⟨nm0, y0⟩ := x
      simp only [RepF] at hrx2
      obtain ⟨cv0, rfl, _, hrx3⟩ := hrx2
      obtain ⟨k0, n0, s0, a1, m1, q1, a2, m2, q2, rfl⟩ := V5 hrx3
      clear hrx3
      have z0 := hcell 0 _ rfl
      have z1 := hcell 1 _ rfl
      have z2 := hcell 2 _ rfl
      have z3 := hcell 3 _ rfl
      have z4 := hcell 4 _ rfl
      have z5 := hcell 5 _ rfl
      simp only [← Nat.add_assoc, Nat.add_zero] at z0 z1 z2 z3 z4 z5
      clear hcx hrx0 hrx hcell hx hkb
      go_wp2_with fail
      refine HC.out.mono ?_
      rintro e w2 ⟨rfl, hb2⟩
      have hb3 := ext_trans hbr hb2
      clear z0 z1 z2 z3 z4 z5 HC hb2 hbr
      cases kb
      · have HK2 := Lib.hid (any_take HG.out HK.out HKB.out)
        go_wp2
        go_roundw
        case rel => exact ⟨k + 1, by omega, by go_num, HK2, hb3⟩
        case measure => simp [intOf]; omega
      · have HT : Hid (l.any nf = true) := Lib.hid (List.any_eq_true.2 ⟨_, HM.out, HKB.out⟩)
        go_wp2
        go_ret
        exact ⟨k, rfl, (decide_eq_true hk0).trans HT.out.symm, hb3⟩
    · obtain rfl : k = l.length := by omega
      have HT : Hid (l.any nf = false) := Lib.hid (by have := HK.out; rwa [List.take_length] at this)
      go_wp2
      go_ret
      exact ⟨-1, rfl, by rw [HT.out]; rfl, hbr⟩
theorem hnFx_c (l : List F) (hI : ∀ x ∈ l, HnAt (vlF x)) (a : Option Addr) (c : Nat) (E : List (List Value)) (w : World) (hS : Sl w (.slice a l.length c) l.length E.flatten) (hE : All2 (RepF w) l E) :
    Calls Try.prog 30 #[.slice a l.length c, .func (.func 31) #[] #[]] w fun e w' => e = .returned (.bool (l.any nf)) ∧ Below w.heap.size w w' := by
  have HX := Lib.hid (hnFx l hI a c E w hS hE)
  clear hS hE hI
  obtain ⟨b, hb⟩ : ∃ b, l.any nf = b := ⟨_, rfl⟩
  rw [hb] at HX ⊢
  clear hb
  go_enter Try.func30, Try.ntmps30
  go_wp2_with fail
  refine HX.out.mono ?_
  rintro e w2 ⟨z, rfl, hz, hb2⟩
  have HZ := Lib.hid hz
  clear hz HX
  go_wp2
  go_ret
  exact ⟨ret_boolH HZ.out, hb2⟩
set_option maxRecDepth 100000 in
set_option maxHeartbeats 8000000 in
theorem hn_at (k n : Int) (s : ByteArray) (is : List V) (fs : List F) (hI : ∀ x ∈ is, HnAt x) (hF : ∀ f ∈ fs, HnAt (vlF f)) : HnAt (.mk k n s is fs) := by
  intro cs w h
  obtain ⟨ai, ci, af, cf, EI, EF, rfl, _, _, _, hV⟩ := RepV.open h
  have HV := Lib.hid hV
  have HI := Lib.hid hI
  have HF := Lib.hid hF
  obtain ⟨b1, hb1⟩ : ∃ b, is.any noneV = b := ⟨_, rfl⟩
  obtain ⟨b2, hb2⟩ : ∃ b, fs.any nf = b := ⟨_, rfl⟩
  have HN : Hid (noneV (.mk k n s is fs) = (b1 || b2)) := Lib.hid (by rw [noneV, noneL_any, noneFs_any, hb1, hb2])
  have HB := Lib.hid (And.intro hb1 hb2)
  clear h hV hI hF hb1 hb2
  go_enter Try.func14, Try.ntmps14
  go_upto_region 1 with (fail)
  refine wp_box1 fun W hsz hbW hA => ?_
  have a3 : W.cell? ⟨w.heap.size, 3, none⟩ = some (.slice ai is.length ci) := hA.2 3
  have HA := Lib.hid hA
  clear hsz hA
  have HC1 := Lib.hid (hnIx_c is HI.out ai ci EI W (HV.out.ext hbW).si (HV.out.ext hbW).ri)
  rw [HB.out.1] at HC1
  go_wp2_with fail
  refine HC1.out.mono ?_
  rintro e w2 ⟨rfl, hb2⟩
  have hb3 := ext_trans hbW hb2
  have a4 : w2.cell? ⟨w.heap.size, 4, none⟩ = some (.slice af fs.length cf) := (HA.out.ext hb2).2 4
  clear a3 HC1 hbW hb2
  cases b1
  · have HC2 := Lib.hid (hnFx_c fs HF.out af cf EF w2 (HV.out.ext hb3).sf (HV.out.ext hb3).rf)
    rw [HB.out.2] at HC2
    go_wp2_with fail
    refine HC2.out.mono ?_
    rintro e w3 ⟨rfl, hb4⟩
    clear a4 HC2
    go_wp2
    go_ret
    exact ⟨ret_boolH (by rw [HN.out]; rfl), ext_trans hb3 hb4⟩
  · go_wp2
    go_ret
    exact ⟨ret_boolH (by rw [HN.out]; rfl), hb3⟩
/- hasNone at every value -/
mutual
theorem hnV : ∀ x : V, HnAt x
  | .mk k n s is fs => hn_at k n s is fs (hnL is) (hnF fs)
theorem hnL : ∀ l : List V, ∀ x ∈ l, HnAt x
  | [] => fun _ h => by cases h
  | y :: l => fun x h => (List.mem_cons.1 h).elim (fun e => e ▸ hnV y) (fun h => hnL l x h)
theorem hnF : ∀ l : List F, ∀ f ∈ l, HnAt (vlF f)
  | [] => fun _ h => by cases h
  | .mk nm y :: l => fun f h => (List.mem_cons.1 h).elim (fun e => by rw [e]; exact hnV y) (fun h => hnF l f h)
end
end Fd
end Go.Proofs.Ytkjgifhklajifaa
namespace Go.Proofs.Ytkjgifhklajifaa
open Go.RowKit
namespace Fd
open _root_.Go.Proofs.Ytkjgifhklajifaa.Nt (RH RH.cell RH.box RH.lt RH.new RH.ext RH.fre RH.set RH.other)
theorem ret_bool {a b : Bool} (h : a = b) : Ending.returned (.bool a) = .returned (.bool b) := by rw [h]
theorem take_byte (s : ByteArray) (k : Nat) (hk : k < s.size) : s.data.toList.take (k + 1) = s.data.toList.take k ++ [s[k]] := by
  have h : k < s.data.toList.length := by simpa using hk
  rw [List.take_succ_eq_append_getElem h]; rfl
theorem toList_nil {s : ByteArray} : s.toList = [] ↔ s.size = 0 := by
  rw [ByteArray.toList_eq]
  have h : s.data.toList.length = s.size := Array.length_toList
  constructor
  · intro e; rw [e] at h; exact h.symm
  · intro e; exact List.eq_nil_of_length_eq_zero (h.trans e)
theorem all_snoc (p : UInt8 → Bool) (s : ByteArray) (k : Nat) (hk : k < s.size) (h : (s.data.toList.take k).all p = true) (hp : p s[k] = true) : (s.data.toList.take (k + 1)).all p = true := by
  rw [take_byte s k hk, List.all_append, h]; simp [hp]
theorem all_not (p : UInt8 → Bool) (s : ByteArray) (k : Nat) (hk : k < s.size) (hp : p s[k] = false) : s.data.toList.all p = false := by
  rw [List.all_eq_false]
  exact ⟨s[k], by rw [show s[k] = s.data.toList[k]'(by simpa using hk) from rfl]; exact List.getElem_mem _, by simp [hp]⟩
theorem all_end (p : UInt8 → Bool) (s : ByteArray) (k : Nat) (hk : ¬ k < s.size) (h : (s.data.toList.take k).all p = true) : s.data.toList.all p = true := by
  rwa [List.take_of_length_le (by simp; omega)] at h
set_option maxRecDepth 100000 in
set_option maxHeartbeats 8000000 in
theorem seen_at (s : ByteArray) (hs : s.size ≤ maxLen) (w : World) : Calls Try.prog 62 #[.string s] w fun e w' => e = .returned (.bool (seenB s)) ∧ w = w' := by
  unfold maxLen at hs
  go_enter Try.func62, Try.ntmps62
  go_wp2
  go_loop [6] (fun i => ∃ k : Nat, k ≤ s.size ∧ i = .int .i64 k ∧ Hid ((s.data.toList.take k).all seenC = true)) (fun i => s.size - (intOf i).toNat)
  case atStart => exact ⟨0, by omega, rfl, rfl⟩
  case round =>
    obtain ⟨k, hk, rfl, HA⟩ := hrel
    by_cases hlt : k < s.size
    · by_cases h1 : 32 ≤ (s[k].toNat : Int)
      · by_cases h2 : (s[k].toNat : Int) ≤ 126
        · have HW : Hid (seenC s[k] = true) := by exact (by unfold seenC; simp; omega : seenC s[k] = true)
          go_wp2
          go_round
          case rel => exact ⟨k + 1, by omega, by go_num, all_snoc _ _ _ hlt HA.out HW.out⟩
          case measure => simp [intOf]; omega
        · have HW : Hid (seenB s = false) := Lib.hid (all_not seenC _ _ hlt (by unfold seenC; simp; omega))
          go_wp2
          go_ret
          exact ⟨ret_bool HW.out.symm, rfl⟩
      · have HW : Hid (seenB s = false) := Lib.hid (all_not seenC _ _ hlt (by unfold seenC; simp; omega))
        go_wp2
        go_ret
        exact ⟨ret_bool HW.out.symm, rfl⟩
    · have HW : Hid (seenB s = true) := Lib.hid (all_end seenC _ _ hlt HA.out)
      go_wp2
      go_ret
      exact ⟨ret_bool HW.out.symm, rfl⟩
set_option maxRecDepth 100000 in
set_option maxHeartbeats 8000000 in
theorem spare_at (k n : Int) (s : ByteArray) (ai af : Option Addr) (ni nf ci cf : Nat) (_h1 : ni ≤ maxLen) (_h2 : nf ≤ maxLen) (_h3 : s.size ≤ maxLen) (w : World) :
    Calls Try.prog 61 #[.agg #[.int .i64 k, .int .i64 n, .string s, .slice ai ni ci, .slice af nf cf]] w fun e w' => e = .returned (.bool (spareB k n s ni nf)) ∧ Below w.heap.size w w' := by
  unfold maxLen at _h1 _h2 _h3
  have HSP : Hid (spareB k n s ni nf = ((decide (n ≠ 0) && decide (k ≠ 1) && decide (k ≠ 2)) || (decide (s.toList ≠ []) && decide (k ≠ 3)) || (decide (0 < ni) && decide (k ≠ 4)) || (decide (0 < nf) && decide (k ≠ 5)))) := Lib.hid (by
    have e1 : decide (s.toList ≠ []) = decide (s.size ≠ 0) := by rw [decide_eq_decide]; exact not_congr toList_nil
    rw [e1]; rfl)
  generalize spareB k n s ni nf = B at *
  go_enter Try.func61, Try.ntmps61
  go_upto_region 1 with (fail)
  refine wp_box1 fun W hszW hbW hA => ?_
  have a0 : W.cell? ⟨w.heap.size, 0, none⟩ = some (.int .i64 k) := hA.2 0
  have a1 : W.cell? ⟨w.heap.size, 1, none⟩ = some (.int .i64 n) := hA.2 1
  have a2 : W.cell? ⟨w.heap.size, 2, none⟩ = some (.string s) := hA.2 2
  have a3 : W.cell? ⟨w.heap.size, 3, none⟩ = some (.slice ai ni ci) := hA.2 3
  have a4 : W.cell? ⟨w.heap.size, 4, none⟩ = some (.slice af nf cf) := hA.2 4
  clear hszW hA
  go_wp2_with fail
  all_goals go_ret
  all_goals refine ⟨ret_bool ?_, hbW⟩
  all_goals rw [HSP.out]
  all_goals clear a0 a1 a2 a3 a4 HSP hbW
  all_goals simp_all
  all_goals first | done | omega | (rw [Bool.eq_iff_iff]; simp; done) | trace_state
end Fd
end Go.Proofs.Ytkjgifhklajifaa
