/- Xcopy of package value. Printed by gen_vcp.py. Plain: a patch laid on field by field; rows of fields that are written. Printed by gen_vmrg.py. -/
import Derived.Test.YtbhcfmdogdaodaaDoorTe04
import Derived.Test.YtbhcfmdogdaodaaDoorTe03
import Derived.Test.YtbhcfmdogdaodaaDoorTe05
import Derived.Test.YtbhcfmdogdaodaaDoorTe02
import Derived.Deep.RegionWith
import Derived.Deep.Cut
import Derived.Deep.DeepCutAuto
namespace Go.Proofs.YtbhcfmdogdaodaaDoor
open Go.RowKit
namespace Fd
open _root_.Go.Proofs.YtbhcfmdogdaodaaDoor.Nt (RH RH.cell RH.box RH.lt RH.new RH.ext RH.fre RH.set RH.other)
open _root_.Go.Proofs.YtbhcfmdogdaodaaDoor.Rw (All2 All2.get All2.length wpList_load_agg wp_stored fl_at Kept Fresh own_mono own_base)
theorem all2_of {α β : Type} {R : α → β → Prop} : ∀ {l : List α} {m : List β}, l.length = m.length → (∀ (j : Nat) (x : α), l[j]? = some x → ∃ y : β, m[j]? = some y ∧ R x y) → All2 R l m
  | [], [], _, _ => trivial
  | [], _ :: _, h, _ => by simp at h
  | _ :: _, [], h, _ => by simp at h
  | x :: l, y :: m, h, hg => by
    obtain ⟨z, e, hz⟩ := hg 0 x rfl
    cases e
    exact ⟨hz, all2_of (by simpa using h) (fun j x hj => hg (j + 1) x hj)⟩
/-- a row that is copied, element by element: those ahead of q are copies of their own, the others still what they were -/
def CInv {α : Type} (R : World → α → List Value → Prop) (k M q : Nat) (w wr : World) (l : List α) (E : List (List Value)) : Prop :=
  E.length = l.length ∧ (∀ c ∈ E, c.length = k) ∧ ∀ (j : Nat) (x : α), l[j]? = some x → ∃ c, E[j]? = some c ∧ (j < q → Fresh M (fun w => R w x c) wr) ∧ (q ≤ j → R w x c)
section
variable {α : Type} {R : World → α → List Value → Prop} {k M q : Nat} {w wr wr' : World} {l : List α} {E : List (List Value)}
theorem CInv.start (hR : ∀ x c, R w x c → c.length = k) (h : All2 (R w) l E) : CInv R k M 0 w wr l E :=
  ⟨h.length.symm, all_len hR h, fun j x hj => by
    obtain ⟨c, hc, hr⟩ := All2.get h hj
    exact ⟨c, hc, fun h => by omega, fun _ => hr⟩⟩
theorem CInv.get (h : CInv R k M q w wr l E) {x : α} (hx : l[q]? = some x) : ∃ c, E[q]? = some c ∧ R w x c := by
  obtain ⟨c, h1, _, h2⟩ := h.2.2 q x hx
  exact ⟨c, h1, h2 (Nat.le_refl _)⟩
theorem CInv.kept (h : CInv R k M q w wr l E) (hs : wr.heap.size ≤ wr'.heap.size) (hk : Kept M wr wr') : CInv R k M q w wr' l E :=
  ⟨h.1, h.2.1, fun j x hj => by
    obtain ⟨c, h1, h2, h3⟩ := h.2.2 j x hj
    exact ⟨c, h1, fun hq => (h2 hq).kept hs hk, h3⟩⟩
theorem CInv.step (h : CInv R k M q w wr l E) {x : α} {c : List Value} (hx : l[q]? = some x) (hc : Fresh M (fun w => R w x c) wr) (hl : c.length = k) : CInv R k M (q + 1) w wr l (E.set q c) := by
  have hq : q < E.length := by rw [h.1]; exact (List.getElem?_eq_some_iff.1 hx).1
  refine ⟨by rw [List.length_set]; exact h.1, fun d hd => ?_, fun j y hj => ?_⟩
  · rcases List.mem_or_eq_of_mem_set hd with h1 | h1
    · exact h.2.1 d h1
    · rw [h1]; exact hl
  · by_cases e : q = j
    · subst e
      rw [hx] at hj
      cases hj
      exact ⟨c, by rw [List.getElem?_set_self hq], fun _ => hc, fun h => by omega⟩
    · obtain ⟨d, h1, h2, h3⟩ := h.2.2 j y hj
      exact ⟨d, by rw [List.getElem?_set_ne e]; exact h1, fun hq => h2 (by omega), fun hq => h3 (by omega)⟩
theorem CInv.fin (h : CInv R k M l.length w wr l E) : All2 (fun x c => Fresh M (fun w => R w x c) wr) l E :=
  all2_of h.1.symm (fun j x hj => by
    obtain ⟨c, h1, h2, _⟩ := h.2.2 j x hj
    exact ⟨c, h1, h2 (List.getElem?_eq_some_iff.1 hj).1⟩)
end
theorem wp_vr2 {P : Program} {c : Code} {Q : Exit → Act → World → Prop} {a : Act} {w : World} {A B : Array Value} {t u : TypeId}
    (h : ∀ W, Below w.heap.size w W → RH W w.heap.size A t → RH W (w.heap.size + 1) B u → c.wp P Q a W) : c.wp P Q a ((w.alloc (.cells A t)).alloc (.cells B u)) := by
  refine h _ (by go_grown) ((RH.new w A t).ext (ext_alloc _ _)) ?_
  have := RH.new (w.alloc (.cells A t)) B u
  simpa using this
/-- the cells of a value in a variable -/
abbrev vAr (k n : Int) (s : ByteArray) (v1 v2 : Value) : Array Value := #[.int .i64 k, .int .i64 n, .string s, v1, v2]
theorem va_cells {w : World} {b : Nat} {k n : Int} {s : ByteArray} {v1 v2 : Value} {t : TypeId} (h : RH w b (vAr k n s v1 v2) t) : w.cell? ⟨b, 3, none⟩ = some v1 ∧ w.cell? ⟨b, 4, none⟩ = some v2 := ⟨h.cell 3, h.cell 4⟩
/-- what stands while a value is copied -/
structure XI (b : Nat) (w : World) (k n : Int) (s : ByteArray) (g1 : Option Addr) (n1 q1 : Nat) (g2 : Option Addr) (n2 q2 : Nat) (E1 E2 : List (List Value)) (wx : World) : Prop where
  r1 : RH wx b (vAr k n s (.slice g1 n1 q1) (.slice g2 n2 q2)) 25
  r2 : ∃ A, RH wx (b + 1) A 25 ∧ A.size = 5
  o1 : wx.ownsRow (b + 2) 25 5 (.slice g1 n1 q1) n1 E1.flatten
  o2 : wx.ownsRow (b + 2) 43 6 (.slice g2 n2 q2) n2 E2.flatten
  ne : ∀ p, (Value.slice g1 n1 q1).ownBlock = some p → (Value.slice g2 n2 q2).ownBlock ≠ some p
  bl : Below b w wx
theorem own_kept {N b j : Nat} {v : Value} {w : World} {e size n : Nat} {u : Value} {xs : List Value} (h : w.ownsRow N e size u n xs) (hb : b < N) : (w.setCell ⟨b, j, none⟩ v).ownsRow N e size u n xs := by
  obtain ⟨h1, h2 | ⟨g, cap, cur, hv, hB, hr, hr2⟩⟩ := h
  · exact ⟨h1, .inl h2⟩
  · exact ⟨h1, .inr ⟨g, cap, cur, hv, hB, (heap_setCell_other w ⟨b, j, none⟩ g v (fun e => by have e' : b = g := e.symm; omega)).trans hr, hr2⟩⟩
theorem XI.start {b : Nat} {w w3 w4 : World} {k n : Int} {s : ByteArray} {g1 : Option Addr} {n1 q1 : Nat} {g2 : Option Addr} {n2 q2 : Nat} {E1 E2 : List (List Value)} {u1 u2 : Value} {M : Nat}
    (hM : b + 1 < M) (h3 : M ≤ w3.heap.size) (hr : RH w4 b (vAr k n s u1 u2) 25) (hz : ∃ A, RH w4 (b + 1) A 25 ∧ A.size = 5)
    (ho1 : w3.ownsRow M 25 5 (.slice g1 n1 q1) n1 E1.flatten) (h34 : Below w3.heap.size w3 w4) (ho2 : w4.ownsRow w3.heap.size 43 6 (.slice g2 n2 q2) n2 E2.flatten) (hb : Below b w w4) :
    XI b w k n s g1 n1 q1 g2 n2 q2 E1 E2 ((w4.setCell ⟨b, 3, none⟩ (.slice g1 n1 q1)).setCell ⟨b, 4, none⟩ (.slice g2 n2 q2)) where
  r1 := (hr.set 3 _).set 4 _
  r2 := by obtain ⟨A, h1, h2⟩ := hz; exact ⟨A, (h1.other (p := ⟨b, 3, none⟩) (by simp) _).other (p := ⟨b, 4, none⟩) (by simp) _, h2⟩
  o1 := own_kept (own_kept (own_mono (ownsRow_ext ho1 h34) (by omega)) (by omega)) (by omega)
  o2 := own_kept (own_kept (own_mono ho2 (by omega)) (by omega)) (by omega)
  ne := fun p h1 h2 => by
    have := (own_base ho1 p h1).2
    have := (own_base ho2 p h2).1
    omega
  bl := (hb.setCell (Nat.le_refl b) _).setCell (Nat.le_refl b) _
theorem setCells_eq5 (w : World) (g o : Nat) (v0 v1 v2 v3 v4 : Value) : w.setCells g o [v0, v1, v2, v3, v4] = ((((w.setCell ⟨g, o, none⟩ v0).setCell ⟨g, o + 1, none⟩ v1).setCell ⟨g, o + 2, none⟩ v2).setCell ⟨g, o + 3, none⟩ v3).setCell ⟨g, o + 4, none⟩ v4 := rfl
section
variable {b : Nat} {w wx wy : World} {k n : Int} {s : ByteArray} {g1 : Option Addr} {n1 q1 : Nat} {g2 : Option Addr} {n2 q2 : Nat} {E1 E2 : List (List Value)}
theorem XI.ext (h : XI b w k n s g1 n1 q1 g2 n2 q2 E1 E2 wx) (hb : Below wx.heap.size wx wy) : XI b w k n s g1 n1 q1 g2 n2 q2 E1 E2 wy where
  r1 := h.r1.ext hb
  r2 := by obtain ⟨A, h1, h2⟩ := h.r2; exact ⟨A, h1.ext hb, h2⟩
  o1 := ownsRow_ext h.o1 hb
  o2 := ownsRow_ext h.o2 hb
  ne := h.ne
  bl := h.bl.trans (hb.mono (Nat.le_of_lt h.r1.lt))
theorem own_other {N e size n g : Nat} {u : Value} {xs : List Value} (h : wx.ownsRow N e size u n xs) (hg : wx.grownBy wy (some g)) (hne : u.ownBlock ≠ some g) : wy.ownsRow N e size u n xs := by
  obtain ⟨h1, h2 | ⟨p, cap, cur, hv, hB, hr, hr2⟩⟩ := h
  · exact ⟨h1, .inl h2⟩
  · refine ⟨h1, .inr ⟨p, cap, cur, hv, hB, (hg.block p (Array.getElem?_eq_some_iff.1 hr).1 (fun e => hne ?_)).trans hr, hr2⟩⟩
    rw [hv, ← e]; rfl
theorem XI.put1 {g i : Nat} {c : List Value} (h : XI b w k n s (some ⟨g, 0, none⟩) n1 q1 g2 n2 q2 E1 E2 wx) (hE : ∀ d ∈ E1, d.length = 5) (hi : i < E1.length) (hc : c.length = 5) :
    XI b w k n s (some ⟨g, 0, none⟩) n1 q1 g2 n2 q2 (E1.set i c) E2 (wx.setCells g (i * 5) c) ∧ wx.grownBy (wx.setCells g (i * 5) c) (some g) := by
  obtain ⟨k1, k2⟩ := Rw.ownsRow_setCells c (i * 5) wx E1.flatten h.o1
  have hg : b + 2 ≤ g := (own_base h.o1 g rfl).1
  refine ⟨⟨Rw.rh_grown h.r1 k2 (by simp; omega), ?_, by rw [← Rw.fl_put hE hi hc]; exact k1, own_other h.o2 k2 (h.ne g rfl), h.ne, ?_⟩, k2⟩
  · obtain ⟨A, h1, h2⟩ := h.r2
    exact ⟨A, Rw.rh_grown h1 k2 (by simp; omega), h2⟩
  · exact h.bl.grown k2 (Nat.le_of_lt h.r1.lt) (fun q hq => by cases hq; omega)
theorem fl_put1 {E : List (List Value)} (hk : ∀ c ∈ E, c.length = 6) {i : Nat} {u : Value} {c0 c : List Value} (h : E[i]? = some (u :: c0)) (hc : c.length = 5) : Rw.setL E.flatten (i * 6 + 1) c = (E.set i (u :: c)).flatten := by
  have hi : i < E.length := (List.getElem?_eq_some_iff.1 h).1
  have h1 := Rw.fl_put hk (c := u :: c) hi (by simp [hc])
  have h2 : E.flatten[i * 6]? = some u := fl_at hk (j := 0) h rfl
  rw [Rw.setL] at h1
  rw [← h1]
  congr 1
  obtain ⟨hj, e⟩ := List.getElem?_eq_some_iff.1 h2
  rw [← e, List.set_getElem_self]
theorem XI.put2 {g i : Nat} {u : Value} {c0 c : List Value} (h : XI b w k n s g1 n1 q1 (some ⟨g, 0, none⟩) n2 q2 E1 E2 wx) (hE : ∀ d ∈ E2, d.length = 6) (hi : E2[i]? = some (u :: c0)) (hc : c.length = 5) :
    XI b w k n s g1 n1 q1 (some ⟨g, 0, none⟩) n2 q2 E1 (E2.set i (u :: c)) (wx.setCells g (i * 6 + 1) c) ∧ wx.grownBy (wx.setCells g (i * 6 + 1) c) (some g) := by
  obtain ⟨k1, k2⟩ := Rw.ownsRow_setCells c (i * 6 + 1) wx E2.flatten h.o2
  have hg : b + 2 ≤ g := (own_base h.o2 g rfl).1
  refine ⟨⟨Rw.rh_grown h.r1 k2 (by simp; omega), ?_, own_other h.o1 k2 (fun e => h.ne g e rfl), by rw [← fl_put1 hE hi hc]; exact k1, h.ne, ?_⟩, k2⟩
  · obtain ⟨A, h1, h2⟩ := h.r2
    exact ⟨A, Rw.rh_grown h1 k2 (by simp; omega), h2⟩
  · exact h.bl.grown k2 (Nat.le_of_lt h.r1.lt) (fun q hq => by cases hq; omega)
end
/-- written elsewhere: the row stays -/
theorem own_setRow {N b : Nat} {A : Array Value} {w : World} {e size n : Nat} {u : Value} {xs : List Value} (h : w.ownsRow N e size u n xs) (hb : b < N) : (w.setRow b A).ownsRow N e size u n xs :=
  own_keep h (fun q h1 _ => setRow_other _ _ _ _ (by omega))
def XcTop (x : V) : Prop := ∀ (cs : List Value) (w : World), RepV w x cs → chkV x = 0 → Calls Tryd.prog 11 #[.agg cs.toArray] w (CopyTop x w)
def XcAt (x : V) : Prop := ∀ (cs : List Value) (w : World), RepV w x cs → chkV x = 0 → Calls Tryd.prog 11 #[.agg cs.toArray] w (CopyPost x w)
set_option maxRecDepth 100000 in
set_option maxHeartbeats 16000000 in
theorem xcopy_at (k n : Int) (s : ByteArray) (is : List V) (fs : List F) (hI : ∀ x ∈ is, XcAt x) (hF : ∀ f ∈ fs, XcAt (vlF f)) : XcTop (.mk k n s is fs) := by
  intro cs w h hck
  obtain ⟨ai, ci, af, cf, EI, EF, rfl, i1, i2, i3, hV⟩ := RepV.open h
  obtain ⟨hown, hci, _, hcf⟩ := chkV_ok hck
  have HV := Lib.hid hV
  have HI := Lib.hid (fun x hx c V hr => hI x hx c V hr (hci x hx))
  have HF := Lib.hid (fun f hf c V hr => hF f hf c V hr (hcf f hf))
  have HW := Lib.hid (And.intro i1 (And.intro i2 i3))
  have hl1 : is.length ≤ 100 := by unfold ownF at hown; split at hown <;> (try split at hown) <;> (try split at hown) <;> (try split at hown) <;> (try split at hown) <;> (try split at hown) <;> (try (simp at hown; done)) <;> omega
  have hl2 : fs.length ≤ 100 := by unfold ownF at hown; split at hown <;> (try split at hown) <;> (try split at hown) <;> (try split at hown) <;> (try split at hown) <;> (try split at hown) <;> (try (simp at hown; done)) <;> omega
  have HC1 : Hid (∀ V, Below w.heap.size w V → Calls Tryd.prog 26 #[.slice ai is.length ci] V fun e w' => ∃ a' c', e = .returned (.slice a' is.length c') ∧ w'.ownsRow V.heap.size 25 5 (.slice a' is.length c') is.length EI.flatten ∧ Below V.heap.size V w') := Lib.hid (fun V hb =>
    cloneV_at _ _ _ _ V (hV.si.ext hb) (by rw [Rw.fl_len (all_len (fun _ _ => RepV.len) hV.ri), hV.ri.length]) (all_one (fun _ _ => RepV.one) hV.ri) (by omega))
  have HC2 : Hid (∀ V, Below w.heap.size w V → Calls Tryd.prog 27 #[.slice af fs.length cf] V fun e w' => ∃ a' c', e = .returned (.slice a' fs.length c') ∧ w'.ownsRow V.heap.size 43 6 (.slice a' fs.length c') fs.length EF.flatten ∧ Below V.heap.size V w') := Lib.hid (fun V hb =>
    cloneF_at _ _ _ _ V (hV.sf.ext hb) (by rw [Rw.fl_len (all_len (fun _ _ => RepF.len) hV.rf), hV.rf.length]) (all_one (fun _ _ => RepF.one) hV.rf) (by omega))
  clear h hV hI hF i1 i2 i3 hown hci hcf hck
  go_enter Tryd.func11, Tryd.ntmps11
  go_upto_region 1 with (fail)
  refine wp_vr2 fun W hbW hR1 hR2 => ?_
  have hbN : w.heap.size < W.heap.size := hR1.lt
  generalize hb : w.heap.size = b at *
  have HB := Lib.hid hb
  clear hb
  have HR1 : Hid (RH W b (vAr k n s (.slice ai is.length ci) (.slice af fs.length cf)) 25) := Lib.hid hR1
  have HR2 := Lib.hid hR2
  have HBW := Lib.hid hbW
  obtain ⟨c3, c4⟩ := va_cells HR1.out
  have hz := hR1.fre
  clear hR1 hR2 hbW
  go_cut [9] (fun _ wx => ∃ g1 q1 g2 q2, XI b w k n s g1 is.length q1 g2 fs.length q2 EI EF wx)
  case first =>
    go_region_with (first
    | (go_at_call 26; refine (HC1.out _ HBW.out.drew).mono ?_; rintro e w3 ⟨g1, q1, rfl, ho1, hb3⟩; have hR3 := HR1.out.ext (ext_trans ((Below.refl W.heap.size W).drew) hb3); obtain ⟨c3, c4⟩ := va_cells hR3; have hz := hR3.fre; have HZ3 := Lib.hid (HR2.out.ext (ext_trans ((Below.refl W.heap.size W).drew) hb3)); have HV3 := Lib.hid (HBW.out.drew.trans (hb3.mono (Nat.le_of_lt hbN))); have HS3 := Lib.hid hb3.size; have HR3 := Lib.hid hR3; have HO1 := Lib.hid ho1; clear hR3 ho1 hb3)
    | (go_at_call 27; refine (HC2.out _ HV3.out).mono ?_; rintro e w4 ⟨g2, q2, rfl, ho2, hb4⟩; have hR4 := HR3.out.ext hb4; obtain ⟨c3, c4⟩ := va_cells hR4; have hz := hR4.fre; have HZ4 := Lib.hid (HZ3.out.ext hb4); have HV4 := Lib.hid (HV3.out.trans (hb4.mono (Nat.le_trans (Nat.le_of_lt hbN) HS3.out))); have H34 := Lib.hid hb4; have HR4 := Lib.hid hR4; have HO2 := Lib.hid ho2; clear hR4 ho2 hb4))
    all_goals
      have HXI := Lib.hid (XI.start (E1 := EI) (E2 := EF) (show b + 1 < W.drew.heap.size from HR2.out.lt) HS3.out HR4.out ⟨_, HZ4.out, rfl⟩ HO1.out H34.out HO2.out HV4.out)
      go_wp2_with fail
      go_meet
      exact ⟨_, _, _, _, HXI.out⟩
  case rest =>
    obtain ⟨g1, q1, g2, q2, hx⟩ := hcut
    clear c3 c4 hz HC1 HC2 HBW HR1 HR2 hbN
    generalize hM : wc.heap.size = M
    have HG1 : Hid (∀ p, (Value.slice g1 is.length q1).ownBlock = some p → p < M) := Lib.hid (fun p hp => by rw [← hM]; exact (own_base hx.o1 p hp).2)
    have HG2 : Hid (∀ p, (Value.slice g2 fs.length q2).ownBlock = some p → p < M) := Lib.hid (fun p hp => by rw [← hM]; exact (own_base hx.o2 p hp).2)
    have HMB : Hid (b + 1 < M) := Lib.hid (by rw [← hM]; obtain ⟨A, h1, _⟩ := hx.r2; exact h1.lt)
    have HMC : Hid (M ≤ wc.heap.size) := Lib.hid (Nat.le_of_eq hM.symm)
    have HX := Lib.hid hx
    have c3 : wc.cell? ⟨b, 3, none⟩ = some (.slice g1 is.length q1) := (va_cells hx.r1).1
    have hil : (is.length : Int) ≤ 100 := by omega
    have hfl : (fs.length : Int) ≤ 100 := by omega
    have HCI : Hid (CInv RepV 5 M 0 w wc is EI) := Lib.hid (CInv.start (fun _ _ => RepV.len) HV.out.ri)
    have HCF : Hid (CInv RepF 6 M 0 w wc fs EF) := Lib.hid (CInv.start (fun _ _ => RepF.len) HV.out.rf)
    clear hM hx
    go_wp2_with fail
    go_loopw [18] (fun i wr => ∃ (q : Nat) (E1 : List (List Value)), q ≤ is.length ∧ i = .int .i64 (q : Int) ∧ Hid (CInv RepV 5 M q w wr is E1) ∧ Hid (XI b w k n s g1 is.length q1 g2 fs.length q2 E1 EF wr) ∧ Hid (M ≤ wr.heap.size)) (fun i _ => is.length - (intOf i).toNat)
    case atStart => exact ⟨0, EI, by omega, rfl, HCI, HX, HMC⟩
    case round =>
      obtain ⟨q, E1, hq, rfl, HCI, HX, HMC⟩ := hrel
      generalize hXX : wr = X at *
      clear hXX c3
      by_cases hlt : q < is.length
      · obtain ⟨x, hx⟩ : ∃ x, is[q]? = some x := ⟨_, List.getElem?_eq_getElem hlt⟩
        obtain ⟨c, hc, hrw⟩ := HCI.out.get hx
        have hrx := RepV.ext (by rw [HB.out]; exact HX.out.bl) hrw
        obtain ⟨p0, o0, e0, hp0, hcell⟩ := sl_elem (Sl.ofOwn HX.out.o1) HCI.out.2.1 (by omega) hc
        obtain ⟨g, rfl⟩ : ∃ g, g1 = some ⟨g, 0, none⟩ := by
          obtain ⟨_, ⟨e, _⟩ | ⟨g, cap, cur, e, _⟩⟩ := HX.out.o1
          · injection e with e1 _ _; rw [e1] at e0; cases e0
          · injection e with e1 _ _; exact ⟨g, e1⟩
        cases e0
        obtain ⟨kx, nx, sx, a1, m1, r1, a2, m2, r2, rfl⟩ := V5 hrx
        have hqi : (q : Int) < (is.length : Int) := by omega
        have HQ := Lib.hid hx
        have HRX := Lib.hid hrx
        have HCC := Lib.hid hc
        have HONE := Lib.hid (all_arr (RepV.one hrx))
        have HINF := Lib.hid (v_info hrx)
        clear hc hrx hx hrw
        go_upto_region 5 with (first | (refine wpList_load_agg rfl _ _ rfl p0 (q * 5) (by rfl) [.int .i64 kx, .int .i64 nx, .string sx, .slice a1 m1 r1, .slice a2 m2 r2] (fun j v hj => by have h0 := hcell j v hj; rw [Nat.zero_add] at h0; exact h0) _ Tryd.underlying25 rfl HINF.out ?_) | (refine wpList_store_row rfl _ _ _ rfl X.heap.size #[.int .i64 kx, .int .i64 nx, .string sx, .slice a1 m1 r1, .slice a2 m2 r2] rfl rfl _ _ (Nt.RH.new _ _ _) HINF.out rfl HONE.out ?_))
        refine wp_stored fun V hbV hR => ?_
        have HVS := Lib.hid hbV.size
        have HXV := Lib.hid (HX.out.ext hbV)
        have HCV := Lib.hid (HCI.out.kept hbV.size (Kept.below hbV))
        have HCALL : Hid (∀ Y, Below V.heap.size V Y → Calls Tryd.prog 11 #[.agg #[.int .i64 kx, .int .i64 nx, .string sx, .slice a1 m1 r1, .slice a2 m2 r2]] Y (CopyPost x Y)) := Lib.hid (fun Y hY => HI.out x (List.mem_of_getElem? HQ.out) _ Y (RepV.ext hY (RepV.ext hbV HRX.out)))
        have hvb : V.cell? ⟨b, 3, none⟩ = some (.slice (some ⟨p0, 0, none⟩) is.length q1) := (va_cells HXV.out.r1).1
        have d0 : V.cell? ⟨X.heap.size, 0, none⟩ = some (.int .i64 kx) := hR.cell 0
        have d1 : V.cell? ⟨X.heap.size, 1, none⟩ = some (.int .i64 nx) := hR.cell 1
        have d2 : V.cell? ⟨X.heap.size, 2, none⟩ = some (.string sx) := hR.cell 2
        have d3 : V.cell? ⟨X.heap.size, 3, none⟩ = some (.slice a1 m1 r1) := hR.cell 3
        have d4 : V.cell? ⟨X.heap.size, 4, none⟩ = some (.slice a2 m2 r2) := hR.cell 4
        clear hbV hR HONE HINF hcell hp0
        generalize X.heap.size = bx at *
        have HROW : Hid (∀ Y, XI b w k n s (some ⟨p0, 0, none⟩) is.length q1 g2 fs.length q2 E1 EF Y → ∀ (j : Nat) (v : Value), [Value.int .i64 kx, .int .i64 nx, .string sx, .slice a1 m1 r1, .slice a2 m2 r2][j]? = some v → Y.cell? ⟨p0, q * 5 + j, none⟩ = some v) := Lib.hid (fun Y hY j v hj => by
          rw [hY.o1.cellAt (q * 5 + j) (by have := (List.getElem?_eq_some_iff.1 hj).1; simp at this; omega)]
          exact fl_at HCI.out.2.1 HCC.out hj)
        have hz0 := HXV.out.o1.frozenAt
        go_wp2_with fail
        go_region_with (go_at_call 11; refine (HCALL.out _ (Below.refl V.heap.size V).drew).mono ?_; rintro e w5 ⟨c', rfl, hf, hb5⟩; obtain ⟨ky, ny, sy, a3, m3, r3, a4, m4, r4, rfl⟩ := V5 hf.now; have hb6 := ext_trans ((Below.refl V.heap.size V).drew) hb5; have HXY := Lib.hid (HXV.out.ext hb6); have hz := HXY.out.o1.frozenAt; have z0 : w5.cell? ⟨p0, q * 5, none⟩ = some (.int .i64 kx) := HROW.out _ HXY.out 0 _ rfl; have z1 := HROW.out _ HXY.out 1 _ rfl; have z2 := HROW.out _ HXY.out 2 _ rfl; have z3 := HROW.out _ HXY.out 3 _ rfl; have z4 := HROW.out _ HXY.out 4 _ rfl; have HCY := Lib.hid (HCV.out.kept hb6.size (Kept.below hb6)); have HFY := Lib.hid hf; have HSY := Lib.hid hb6.size; have hvb5 := (va_cells HXY.out.r1).1; clear hb5 hb6 hf)
        all_goals
          have HP := XI.put1 (g := p0) (i := q) (c := [.int .i64 ky, .int .i64 ny, .string sy, .slice a3 m3 r3, .slice a4 m4 r4]) HXY.out HCI.out.2.1 (by rw [HCI.out.1]; exact hlt) rfl
          rw [setCells_eq5] at HP
          generalize World.setCell _ _ _ = Z at *
          have hKZ : Kept M w5 Z := Kept.grown HP.2 (HG1.out p0 rfl)
          have HC2 := Lib.hid (CInv.step (HCY.out.kept HP.2.size hKZ) HQ.out ((Fresh.mono HFY.out (Nat.le_trans HMC.out HVS.out)).kept HP.2.size hKZ) rfl)
          have HX2 := Lib.hid HP.1
          have HM2 : Hid (M ≤ Z.heap.size) := Lib.hid (Nat.le_trans HMC.out (Nat.le_trans HVS.out (Nat.le_trans HSY.out HP.2.size)))
          clear HP hKZ z0 z1 z2 z3 z4 hz hvb5
          go_wp2_with fail
          go_roundw
          case rel => exact ⟨q + 1, _, by omega, by go_num, HC2, HX2, HM2⟩
          case measure => simp [intOf]; omega
      · have hqe : q = is.length := by omega
        subst hqe
        have c4 : X.cell? ⟨b, 4, none⟩ = some (.slice g2 fs.length q2) := (va_cells HX.out.r1).2
        have HCF2 : Hid (CInv RepF 6 M 0 w X fs EF) := Lib.hid (CInv.start (fun _ _ => RepF.len) HV.out.rf)
        clear hlt hq HCF
        go_wp2_with fail
        go_loopw [33] (fun i wr => ∃ (q : Nat) (E2 : List (List Value)), q ≤ fs.length ∧ i = .int .i64 (q : Int) ∧ Hid (CInv RepV 5 M is.length w wr is E1) ∧ Hid (CInv RepF 6 M q w wr fs E2) ∧ Hid (XI b w k n s g1 is.length q1 g2 fs.length q2 E1 E2 wr) ∧ Hid (M ≤ wr.heap.size)) (fun i _ => fs.length - (intOf i).toNat)
        case atStart => exact ⟨0, EF, by omega, rfl, HCI, HCF2, HX, HMC⟩
        case round =>
          obtain ⟨q, E2, hq, rfl, HCI, HCF, HX, HMC⟩ := hrel
          generalize hXX : wr = X at *
          clear hXX c4
          by_cases hlt : q < fs.length
          · obtain ⟨f, hx⟩ : ∃ x, fs[q]? = some x := ⟨_, List.getElem?_eq_getElem hlt⟩
            obtain ⟨c, hc, hrw⟩ := HCF.out.get hx
            have hrx := RepF.ext (by rw [HB.out]; exact HX.out.bl) hrw
            obtain ⟨p0, o0, e0, hp0, hcell⟩ := sl_elem (Sl.ofOwn HX.out.o2) HCF.out.2.1 (by omega) hc
            obtain ⟨g, rfl⟩ : ∃ g, g2 = some ⟨g, 0, none⟩ := by
              obtain ⟨_, ⟨e, _⟩ | ⟨g, cap, cur, e, _⟩⟩ := HX.out.o2
              · injection e with e1 _ _; rw [e1] at e0; cases e0
              · injection e with e1 _ _; exact ⟨g, e1⟩
            cases e0
            obtain ⟨nm, x⟩ := f
            have hrx' := hrx
            simp only [RepF] at hrx'
            obtain ⟨cv, rfl, hnm, hrv⟩ := hrx'
            obtain ⟨kx, nx, sx, a1, m1, r1, a2, m2, r2, rfl⟩ := V5 hrv
            have hqi : (q : Int) < (fs.length : Int) := by omega
            have HQ := Lib.hid hx
            have HRX := Lib.hid hrv
            have HCC := Lib.hid hc
            have HNM := Lib.hid hnm
            have HONE := Lib.hid (all_arr (RepF.one hrx))
            have HINF := Lib.hid (f_info hrx)
            clear hc hrx hx hrw hrv hnm
            go_upto_region 10 with (first | (refine wpList_load_agg rfl _ _ rfl p0 (q * 6) (by rfl) [.string nm, .int .i64 kx, .int .i64 nx, .string sx, .slice a1 m1 r1, .slice a2 m2 r2] (fun j v hj => by have h0 := hcell j v hj; rw [Nat.zero_add] at h0; exact h0) _ Tryd.underlying43 rfl HINF.out ?_) | (refine wpList_store_row rfl _ _ _ rfl X.heap.size #[.string nm, .int .i64 kx, .int .i64 nx, .string sx, .slice a1 m1 r1, .slice a2 m2 r2] rfl rfl _ _ (Nt.RH.new _ _ _) HINF.out rfl HONE.out ?_))
            refine wp_stored fun V hbV hR => ?_
            have HVS := Lib.hid hbV.size
            have HXV := Lib.hid (HX.out.ext hbV)
            have HCV := Lib.hid (HCI.out.kept hbV.size (Kept.below hbV))
            have HCW := Lib.hid (HCF.out.kept hbV.size (Kept.below hbV))
            have HCALL : Hid (∀ Y, Below V.heap.size V Y → Calls Tryd.prog 11 #[.agg #[.int .i64 kx, .int .i64 nx, .string sx, .slice a1 m1 r1, .slice a2 m2 r2]] Y (CopyPost x Y)) := Lib.hid (fun Y hY => HF.out (.mk nm x) (List.mem_of_getElem? HQ.out) _ Y (RepV.ext hY (RepV.ext hbV HRX.out)))
            have hvb : V.cell? ⟨b, 4, none⟩ = some (.slice (some ⟨p0, 0, none⟩) fs.length q2) := (va_cells HXV.out.r1).2
            have d1 : V.cell? ⟨X.heap.size, 1, none⟩ = some (.int .i64 kx) := hR.cell 1
            have d2 : V.cell? ⟨X.heap.size, 2, none⟩ = some (.int .i64 nx) := hR.cell 2
            have d3 : V.cell? ⟨X.heap.size, 3, none⟩ = some (.string sx) := hR.cell 3
            have d4 : V.cell? ⟨X.heap.size, 4, none⟩ = some (.slice a1 m1 r1) := hR.cell 4
            have d5 : V.cell? ⟨X.heap.size, 5, none⟩ = some (.slice a2 m2 r2) := hR.cell 5
            clear hbV hR HONE HINF hcell hp0
            generalize X.heap.size = bx at *
            have HROW : Hid (∀ Y, XI b w k n s g1 is.length q1 (some ⟨p0, 0, none⟩) fs.length q2 E1 E2 Y → ∀ (j : Nat) (v : Value), [Value.string nm, .int .i64 kx, .int .i64 nx, .string sx, .slice a1 m1 r1, .slice a2 m2 r2][j]? = some v → Y.cell? ⟨p0, q * 6 + j, none⟩ = some v) := Lib.hid (fun Y hY j v hj => by
              rw [hY.o2.cellAt (q * 6 + j) (by have := (List.getElem?_eq_some_iff.1 hj).1; simp at this; omega)]
              exact fl_at HCF.out.2.1 HCC.out hj)
            have hz0 := HXV.out.o2.frozenAt
            go_wp2_with fail
            go_region_with (go_at_call 11; refine (HCALL.out _ (Below.refl V.heap.size V).drew).mono ?_; rintro e w5 ⟨c', rfl, hf, hb5⟩; obtain ⟨ky, ny, sy, a3, m3, r3, a4, m4, r4, rfl⟩ := V5 hf.now; have hb6 := ext_trans ((Below.refl V.heap.size V).drew) hb5; have HXY := Lib.hid (HXV.out.ext hb6); have hz := HXY.out.o2.frozenAt; have z1 := HROW.out _ HXY.out 1 _ rfl; have z2 := HROW.out _ HXY.out 2 _ rfl; have z3 := HROW.out _ HXY.out 3 _ rfl; have z4 := HROW.out _ HXY.out 4 _ rfl; have z5 := HROW.out _ HXY.out 5 _ rfl; have HCY := Lib.hid (HCV.out.kept hb6.size (Kept.below hb6)); have HCX := Lib.hid (HCW.out.kept hb6.size (Kept.below hb6)); have HFY := Lib.hid hf; have HSY := Lib.hid hb6.size; have hvb5 := (va_cells HXY.out.r1).2; clear hb5 hb6 hf)
            all_goals
              have HP := XI.put2 (g := p0) (i := q) (c := [.int .i64 ky, .int .i64 ny, .string sy, .slice a3 m3 r3, .slice a4 m4 r4]) HXY.out HCF.out.2.1 HCC.out rfl
              rw [setCells_eq5] at HP
              generalize World.setCell _ _ _ = Z at *
              have hKZ : Kept M w5 Z := Kept.grown HP.2 (HG2.out p0 rfl)
              have HC2 := Lib.hid (HCY.out.kept HP.2.size hKZ)
              have HC3 := Lib.hid (CInv.step (HCX.out.kept HP.2.size hKZ) HQ.out (fre_field ((Fresh.mono HFY.out (Nat.le_trans HMC.out HVS.out)).kept HP.2.size hKZ) HNM.out) rfl)
              have HX2 := Lib.hid HP.1
              have HM2 : Hid (M ≤ Z.heap.size) := Lib.hid (Nat.le_trans HMC.out (Nat.le_trans HVS.out (Nat.le_trans HSY.out HP.2.size)))
              clear HP hKZ z1 z2 z3 z4 z5 hz hvb5
              go_wp2_with fail
              go_roundw
              case rel => exact ⟨q + 1, _, by omega, by go_num, HC2, HC3, HX2, HM2⟩
              case measure => simp [intOf]; omega
          · have hqe : q = fs.length := by omega
            subst hqe
            have hRX := HX.out.r1
            obtain ⟨AZ, hZX, hAZ⟩ := HX.out.r2
            obtain ⟨L, hL⟩ : ∃ L : List Value, L = [.int .i64 k, .int .i64 n, .string s, .slice g1 is.length q1, .slice g2 fs.length q2] := ⟨_, rfl⟩
            have hLi : (Tryd.prog.info? 25).map (·.size) = some L.length := by rw [hL]; kernel_rfl
            have hL5 : L.length = 5 := by rw [hL]; rfl
            have hLa : ∀ u ∈ L, u.oneCell' = true := by
              intro u hu
              rw [hL] at hu
              simp only [List.mem_cons, List.not_mem_nil, or_false] at hu
              rcases hu with rfl | rfl | rfl | rfl | rfl <;> rfl
            have hLc : ∀ (j : Nat) (v : Value), L[j]? = some v → X.cell? ⟨b, 0 + j, none⟩ = some v := fun j v hj => by
              rw [Nat.zero_add, hRX.cell, ← hj, hL]
              exact List.getElem?_toArray.symm ▸ rfl
            have hsc : (storeCells ⟨b + 1, 0, none⟩ L 0).run Tryd.prog X = .ok () (X.setRow (b + 1) L.toArray) := Nt.store_cells (P := Tryd.prog) (ty := 25) hZX hLi (by rw [hAZ, hL]; rfl) (all_arr hLa)
            have HFIN : Hid (CopyTop (.mk k n s is fs) w (.returned (.agg L.toArray)) (X.setRow (b + 1) L.toArray)) := Lib.hid ⟨_, _, E2, by rw [hL], HW.out, by
              rw [HB.out]
              have h1 : Rw.Fresh (b + 2) (fun w => ∃ EI, Sl w (.slice g1 is.length q1) is.length EI.flatten ∧ All2 (RepV w) is EI) X := fun w'' hk => ⟨E1, Rw.fresh_own HX.out.o1 w'' hk, HCI.out.fin.mono (fun _ _ h => h w'' (fun q h1 h2 => hk q (by have := HMB.out; omega) h2))⟩
              exact (Fresh.kept h1 (by rw [setRow_size]; exact Nat.le_refl _) (fun q h1 h2 => setRow_other _ _ _ _ (by omega))).mono (by omega), by
              rw [HB.out]
              refine ⟨own_mono (own_setRow HX.out.o2 (by omega)) (by omega), HCF.out.fin.mono (fun _ _ h w'' hk => h w'' (fun q h1 h2 => ?_))⟩
              have hq := HMB.out
              refine (hk q (by omega) (by rw [setRow_size]; exact h2) (fun e => ?_)).trans (setRow_other _ _ _ _ (by omega))
              have := HG2.out q e.symm
              omega, by
              rw [HB.out]; exact below_setRow HX.out.bl (by omega) _⟩
            clear hL
            go_wp2_with (refine wpList_load_agg rfl _ _ rfl b 0 (by rfl) L hLc _ Tryd.underlying25 rfl hLi ?_)
            exact bodyPost_ret (v := .agg L.toArray) (results_cell_row rfl _ _ _ _ _ _ _ rfl (hZX.row _) Tryd.underlying25 rfl (by simpa using hLi)) rfl HFIN.out
/- Xcopy at every value -/
mutual
theorem xcV : ∀ x : V, XcAt x
  | .mk k n s is fs => fun cs w h hc => (xcopy_at k n s is fs (xcL is) (xcF fs) cs w h hc).mono (fun _ _ h => h.copy)
theorem xcL : ∀ l : List V, ∀ x ∈ l, XcAt x
  | [] => fun _ h => by cases h
  | y :: l => fun x h => (List.mem_cons.1 h).elim (fun e => e ▸ xcV y) (fun h => xcL l x h)
theorem xcF : ∀ l : List F, ∀ f ∈ l, XcAt (vlF f)
  | [] => fun _ h => by cases h
  | .mk nm y :: l => fun f h => (List.mem_cons.1 h).elim (fun e => by rw [e]; exact xcV y) (fun h => xcF l f h)
end
end Fd
end Go.Proofs.YtbhcfmdogdaodaaDoor
namespace Go.Proofs.YtbhcfmdogdaodaaDoor
open Go.RowKit
namespace Fd
open _root_.Go.Proofs.YtbhcfmdogdaodaaDoor.Rw (All2 All2.length All2.get All2.mono All2.set All2.append All2.take All2.drop Kept Fresh fl_len)
theorem base_right {x : V} (h : chkV x = 0) : Srt (fields (base x)) ∧ ∀ f ∈ fields (base x), chkV (vlF f) = 0 := by
  unfold base
  by_cases hk : kind x = 5
  · rw [if_pos hk]; exact fields_ok h
  · rw [if_neg hk]; exact ⟨List.Pairwise.nil, fun f hf => by cases hf⟩
theorem fs_len {x : V} (h : chkV x = 0) : (fields x).length ≤ 100 ∧ (items x).length ≤ 100 := by
  obtain ⟨k, n, s, is, fs⟩ := x
  obtain ⟨hown, _⟩ := chkV_ok h
  show fs.length ≤ 100 ∧ is.length ≤ 100
  constructor <;> (unfold ownF at hown; split at hown <;> (try split at hown) <;> (try split at hown) <;> (try split at hown) <;> (try split at hown) <;> (try split at hown) <;> (try (simp at hown; done)) <;> omega)
theorem srt_ne' {l : List F} (h : Srt l) : l.Pairwise (fun a b => nmF a ≠ nmF b) := h.imp (fun h => lt_ne h)
theorem take_snoc {α : Type} {l : List α} {q : Nat} {x : α} (h : l[q]? = some x) : l.take (q + 1) = l.take q ++ [x] := by
  obtain ⟨hq, rfl⟩ := List.getElem?_eq_some_iff.1 h
  exact List.take_succ_eq_append_getElem hq
section
variable {N : Nat} {w w' : World} {fs : List F} {E : List (List Value)}
theorem TopF.mono {v : Value} (h : TopF N w fs v E) {M : Nat} (hM : M ≤ N) : TopF M w fs v E :=
  ⟨Rw.own_mono h.own hM, h.el.mono (fun _ _ hr w'' k => hr w'' (fun q h1 h2 h3 => k q (by omega) h2 h3))⟩
theorem TopF.shape {v : Value} (h : TopF N w fs v E) : ∃ a c, v = .slice a fs.length c := by
  obtain ⟨a, c, e, _⟩ := h.sl
  exact ⟨a, c, e⟩
/-- an element's value is written anew -/
theorem TopF.put {g cap i n M : Nat} {nm : ByteArray} {c0 c : List Value} {m : V} (h : TopF N w fs (.slice (some ⟨g, 0, none⟩) n cap) E) (hE : E[i]? = some (.string nm :: c0)) (hnm : nm.size ≤ maxLen) (hc : FreV M w m c) (hl : c.length = 5) (hNM : N ≤ M) (hg : g < M) :
    TopF N (w.setCells g (i * 6 + 1) c) (fs.set i (.mk nm m)) (.slice (some ⟨g, 0, none⟩) n cap) (E.set i (.string nm :: c)) ∧ w.grownBy (w.setCells g (i * 6 + 1) c) (some g) := by
  obtain ⟨_, _, e, _⟩ := h.sl
  cases e
  obtain ⟨k1, k2⟩ := Rw.ownsRow_setCells c (i * 6 + 1) w E.flatten h.own
  refine ⟨⟨by rw [List.length_set, ← fl_put1 h.six hE hl]; exact k1, All2.set ?_ i (h.els k2 (.inl rfl))⟩, k2⟩
  exact el_new (w1 := w) (fre_field hc hnm) hNM k2.size (fun q h1 h2 => k2.block q h2 (by simp; omega)) (fun q h1 h2 => by show some q ≠ some g; simp; omega)
end
end Fd
end Go.Proofs.YtbhcfmdogdaodaaDoor
