/- What a value hangs on: it reads as long as the cells of certain blocks stay. No program stands in it but the types' numbers. quote and thousandths of package value: what they write to a builder. Printed by gen_vsh.py. -/
import Derived.Test.YtkjgifhklajifaaDoorDv03
import Derived.Test.YtkjgifhklajifaaDoorDv07
import Derived.Test.YtkjgifhklajifaaDoorDv02
namespace Go.Proofs.YtkjgifhklajifaaDoor
open Go.RowKit
namespace Fd
open _root_.Go.Proofs.YtkjgifhklajifaaDoor.Rw (All2 All2.length All2.get All2.mono sl_blocks fl_at)
mutual
theorem RepV.blocks {w w' : World} (hb : ∀ q, q < w.heap.size → w'.heap[q]? = w.heap[q]?) : ∀ {x : V} {cs : List Value}, RepV w x cs → RepV w' x cs
  | .mk k n s is fs, cs, h => by
    simp only [RepV] at h ⊢
    obtain ⟨vi, vf, ics, fcs, h0, h1, h2, h3, h4, h5, h6, h7⟩ := h
    exact ⟨vi, vf, ics, fcs, h0, h1, h2, h3, sl_blocks h4 hb, RepL.blocks hb h5, sl_blocks h6 hb, RepFs.blocks hb h7⟩
theorem RepL.blocks {w w' : World} (hb : ∀ q, q < w.heap.size → w'.heap[q]? = w.heap[q]?) : ∀ {x : List V} {cs : List Value}, RepL w x cs → RepL w' x cs
  | [], cs, h => by simpa only [RepL] using h
  | x :: xs, cs, h => by
    simp only [RepL] at h ⊢
    obtain ⟨c, r, h0, h1, h2⟩ := h
    exact ⟨c, r, h0, RepV.blocks hb h1, RepL.blocks hb h2⟩
theorem RepF.blocks {w w' : World} (hb : ∀ q, q < w.heap.size → w'.heap[q]? = w.heap[q]?) : ∀ {x : F} {cs : List Value}, RepF w x cs → RepF w' x cs
  | .mk a x, cs, h => by
    simp only [RepF] at h ⊢
    obtain ⟨c, h0, h1, h2⟩ := h
    exact ⟨c, h0, h1, RepV.blocks hb h2⟩
theorem RepFs.blocks {w w' : World} (hb : ∀ q, q < w.heap.size → w'.heap[q]? = w.heap[q]?) : ∀ {x : List F} {cs : List Value}, RepFs w x cs → RepFs w' x cs
  | [], cs, h => by simpa only [RepFs] using h
  | x :: xs, cs, h => by
    simp only [RepFs] at h ⊢
    obtain ⟨c, r, h0, h1, h2⟩ := h
    exact ⟨c, r, h0, RepF.blocks hb h1, RepFs.blocks hb h2⟩
end
/-- it holds as long as the blocks that D names stay -/
def On (D : Nat → Prop) (P : World → Prop) (w : World) : Prop := ∀ Z, (∀ q, q < w.heap.size → D q → Z.heap[q]? = w.heap[q]?) → P Z
section
variable {D D' : Nat → Prop} {P : World → Prop} {w w' : World}
theorem On.now (h : On D P w) : P w := h w (fun _ _ _ => rfl)
theorem On.mono (h : On D P w) (hD : ∀ q, q < w.heap.size → D q → D' q) : On D' P w := fun Z hZ => h Z (fun q h1 h2 => hZ q h1 (hD q h1 h2))
theorem On.keep (h : On D P w) (hs : w.heap.size ≤ w'.heap.size) (hk : ∀ q, q < w.heap.size → D q → w'.heap[q]? = w.heap[q]?) : On D P w' := fun Z hZ => h Z (fun q h1 h2 => (hZ q (by omega) h2).trans (hk q h1 h2))
theorem On.below (h : On D P w) (hb : Below w.heap.size w w') : On D P w' := h.keep hb.size (fun q h1 _ => hb.block q h1)
theorem On.map {P' : World → Prop} (h : On D P w) (f : ∀ Z, P Z → P' Z) : On D P' w := fun Z hZ => f Z (h Z hZ)
end
theorem RepV.on {w : World} {x : V} {c : List Value} (h : RepV w x c) : On (fun _ => True) (fun Z => RepV Z x c) w := fun _ hZ => RepV.blocks (fun q hq => hZ q hq trivial) h
/-- a slice that hangs on certain blocks lies in one of them -/
theorem on_block {D : Nat → Prop} {w : World} {b o n q : Nat} (_hn : 0 < n) (h : On D (fun Z => ∃ cs, cs ≠ [] ∧ Sl Z (.slice (some ⟨b, o, none⟩) n q) n cs) w) : D b := by
  refine Classical.byContradiction fun hD => ?_
  obtain ⟨cs, hcs, a, _, e, _, _, _, h3⟩ := h { w with heap := w.heap.setIfInBounds b (.cells #[] 0) } (fun q hq h1 => by
    show (w.heap.setIfInBounds b _)[q]? = _
    rw [Array.getElem?_setIfInBounds]
    by_cases e : b = q
    · subst e; exact absurd h1 hD
    · rw [if_neg e])
  cases e
  cases cs with
  | nil => exact hcs rfl
  | cons u r =>
    obtain ⟨b', o', e, hc⟩ := h3 0 u rfl
    cases e
    have hlt := World.block_lt_of_cell? _ _ hc
    simp only [World.cell?] at hc
    rw [Array.getElem?_setIfInBounds_self_of_lt (by simpa using hlt)] at hc
    simp at hc
theorem sl_same {w Z : World} {b o n q : Nat} {cs ds : List Value} (h1 : Sl w (.slice (some ⟨b, o, none⟩) n q) n cs) (h2 : Sl Z (.slice (some ⟨b, o, none⟩) n q) n ds) (hl : cs.length = ds.length) (hb : Z.heap[b]? = w.heap[b]?) : cs = ds := by
  obtain ⟨_, _, e1, _, _, _, k1⟩ := h1
  obtain ⟨_, _, e2, _, _, _, k2⟩ := h2
  cases e1; cases e2
  refine List.ext_getElem hl fun i hi hi' => ?_
  obtain ⟨_, _, e, c1⟩ := k1 i _ (List.getElem?_eq_getElem hi)
  cases e
  obtain ⟨_, _, e, c2⟩ := k2 i _ (List.getElem?_eq_getElem hi')
  cases e
  rw [World.cell?_of_block (w := w) (a := ⟨b, o + i, none⟩) hb, c1] at c2
  exact Option.some.inj c2
theorem flat_inj {k : Nat} (h0 : 0 < k) : ∀ {E E' : List (List Value)}, (∀ c ∈ E, c.length = k) → (∀ c ∈ E', c.length = k) → E.flatten = E'.flatten → E = E'
  | [], [], _, _, _ => rfl
  | [], c :: r, _, h, e => by
    have := h c (by simp)
    have e2 := congrArg List.length e
    rw [List.flatten_cons, List.length_append, List.flatten_nil, List.length_nil] at e2; omega
  | c :: r, [], h, _, e => by
    have := h c (by simp)
    have e2 := congrArg List.length e
    rw [List.flatten_cons, List.length_append, List.flatten_nil, List.length_nil] at e2; omega
  | c :: r, c' :: r', h, h', e => by
    rw [List.flatten_cons, List.flatten_cons] at e
    obtain ⟨e1, e2⟩ := List.append_inj e (by rw [h c (by simp), h' c' (by simp)])
    rw [e1, flat_inj h0 (fun x hx => h x (by simp [hx])) (fun x hx => h' x (by simp [hx])) e2]
/-- the cells of a value that hangs on certain blocks -/
theorem on_open {D : Nat → Prop} {w : World} {k n : Int} {s : ByteArray} {is : List V} {fs : List F} {cs : List Value} (h : On D (fun Z => RepV Z (.mk k n s is fs) cs) w) :
    ∃ ai ci af cf EF, cs = [.int .i64 k, .int .i64 n, .string s, .slice ai is.length ci, .slice af fs.length cf] ∧ i64ok k ∧ i64ok n ∧ s.size ≤ maxLen ∧
      On D (fun Z => ∃ EI, Sl Z (.slice ai is.length ci) is.length EI.flatten ∧ All2 (RepV Z) is EI) w ∧ On D (fun Z => Sl Z (.slice af fs.length cf) fs.length EF.flatten ∧ All2 (RepF Z) fs EF) w := by
  obtain ⟨ai, ci, af, cf, EI, EF, rfl, h1, h2, h3, hV⟩ := RepV.open h.now
  refine ⟨ai, ci, af, cf, EF, rfl, h1, h2, h3, fun Z hZ => ?_, fun Z hZ => ?_⟩
  · obtain ⟨ai', ci', af', cf', EI', EF', e, _, _, _, hV'⟩ := RepV.open (h Z hZ)
    simp only [List.cons.injEq, Value.slice.injEq, and_true, true_and] at e
    obtain ⟨⟨rfl, rfl⟩, rfl, rfl⟩ := e
    exact ⟨EI', hV'.si, hV'.ri⟩
  · obtain ⟨ai', ci', af', cf', EI', EF', e, _, _, _, hV'⟩ := RepV.open (h Z hZ)
    simp only [List.cons.injEq, Value.slice.injEq, and_true, true_and] at e
    obtain ⟨⟨rfl, rfl⟩, rfl, rfl⟩ := e
    have l1 := hV.rf.length
    have l2 := hV'.rf.length
    have six1 : ∀ c ∈ EF, c.length = 6 := all_len (fun _ _ => RepF.len) hV.rf
    have six2 : ∀ c ∈ EF', c.length = 6 := all_len (fun _ _ => RepF.len) hV'.rf
    have hE : EF' = EF := by
      by_cases hn : fs.length = 0
      · rw [List.length_eq_zero_iff.1 (show EF'.length = 0 by omega), List.length_eq_zero_iff.1 (show EF.length = 0 by omega)]
      · have hne : ∀ {Z : World} {E : List (List Value)}, All2 (RepF Z) fs E → E.flatten ≠ [] := fun hA e => by
          have h7 := Rw.fl_len (k := 6) (all_len (fun _ _ => RepF.len) hA)
          have h8 := hA.length
          rw [e] at h7
          simp at h7
          omega
        obtain ⟨a, _, e, _, _, _, k3⟩ := id hV.sf
        injection e with e1 _ e2
        subst e1 e2
        obtain ⟨u, r, hur⟩ := List.exists_cons_of_ne_nil (hne hV.rf)
        obtain ⟨b, o, rfl, _⟩ := k3 0 u (by rw [hur]; rfl)
        have hD : D b := on_block (n := fs.length) (o := o) (q := cf) (by omega) (fun Z' hZ' => by
          obtain ⟨_, _, _, _, _, EF2, e, _, _, _, hV2⟩ := RepV.open (h Z' hZ')
          simp only [List.cons.injEq, Value.slice.injEq, and_true, true_and] at e
          obtain ⟨_, rfl, rfl⟩ := e
          exact ⟨EF2.flatten, hne hV2.rf, hV2.sf⟩)
        have hlt : b < w.heap.size := by
          obtain ⟨_, _, e, hc⟩ := k3 0 u (by rw [hur]; rfl)
          cases e
          exact World.block_lt_of_cell? _ _ hc
        refine (flat_inj (k := 6) (by omega) six1 six2 (sl_same hV.sf hV'.sf ?_ (hZ b hlt hD))).symm
        rw [Rw.fl_len six1, Rw.fl_len six2]; omega
    rw [hE] at hV'
    exact ⟨hV'.sf, hV'.rf⟩
/-- fields one by one, each on the same blocks -/
theorem on_all {D : Nat → Prop} {w : World} {fs : List F} {E : List (List Value)} (h : On D (fun Z => All2 (RepF Z) fs E) w) : All2 (fun f c => On D (fun Z => RepF Z f c) w) fs E := by
  induction fs generalizing E with
  | nil => cases E with
    | nil => trivial
    | cons c r => exact h.now.elim
  | cons f l ih => cases E with
    | nil => exact h.now.elim
    | cons c r => exact ⟨h.map (fun _ h => h.1), ih (h.map (fun _ h => h.2))⟩
theorem on_value {D : Nat → Prop} {w : World} {nm : ByteArray} {y : V} {c : List Value} (h : On D (fun Z => RepF Z (.mk nm y) (.string nm :: c)) w) : On D (fun Z => RepV Z y c) w := h.map (fun Z h => by
  simp only [RepF] at h
  obtain ⟨c', e, _, h⟩ := h
  injection e with _ e
  subst e; exact h)
/-- the cells of a row that hangs on certain blocks -/
theorem on_fix {α : Type} {D : Nat → Prop} {w : World} {R : World → α → List Value → Prop} {k : Nat} (h0 : 0 < k) (hlen : ∀ Z x c, R Z x c → c.length = k) {l : List α} {a : Option Addr} {q : Nat}
    (h : On D (fun Z => ∃ E : List (List Value), Sl Z (.slice a l.length q) l.length E.flatten ∧ All2 (R Z) l E) w) : ∃ E : List (List Value), On D (fun Z => Sl Z (.slice a l.length q) l.length E.flatten ∧ All2 (R Z) l E) w := by
  obtain ⟨E, hs, hr⟩ := h.now
  refine ⟨E, fun Z hZ => ?_⟩
  obtain ⟨E', hs', hr'⟩ := h Z hZ
  have l1 := hr.length
  have l2 := hr'.length
  have k1 : ∀ c ∈ E, c.length = k := all_len (hlen w) hr
  have k2 : ∀ c ∈ E', c.length = k := all_len (hlen Z) hr'
  have hE : E' = E := by
    by_cases hn : l.length = 0
    · rw [List.length_eq_zero_iff.1 (show E'.length = 0 by omega), List.length_eq_zero_iff.1 (show E.length = 0 by omega)]
    · have hne : ∀ {Z : World} {E : List (List Value)}, All2 (R Z) l E → E.flatten ≠ [] := fun hA e => by
        have h7 := Rw.fl_len (k := k) (all_len (hlen _) hA)
        have h8 := hA.length
        rw [e, List.length_nil] at h7
        have := Nat.mul_pos (show 0 < _ from by omega : 0 < l.length) h0
        rw [h8] at this
        omega
      obtain ⟨a', _, e, _, _, _, k3⟩ := id hs
      injection e with e1 _ e2
      subst e1 e2
      obtain ⟨u, r, hur⟩ := List.exists_cons_of_ne_nil (hne hr)
      obtain ⟨b, o, rfl, _⟩ := k3 0 u (by rw [hur]; rfl)
      have hD : D b := on_block (n := l.length) (o := o) (q := q) (by omega) (fun Z' hZ' => by
        obtain ⟨E2, hs2, hr2⟩ := h Z' hZ'
        exact ⟨E2.flatten, hne hr2, hs2⟩)
      have hlt : b < w.heap.size := by
        obtain ⟨_, _, e, hc⟩ := k3 0 u (by rw [hur]; rfl)
        cases e
        exact World.block_lt_of_cell? _ _ hc
      refine (flat_inj (k := k) h0 k1 k2 (sl_same hs hs' ?_ (hZ b hlt hD))).symm
      rw [Rw.fl_len k1, Rw.fl_len k2, ← l1, ← l2]
  rw [hE] at hs' hr'
  exact ⟨hs', hr'⟩
theorem on_allR {α : Type} {D : Nat → Prop} {w : World} {R : World → α → List Value → Prop} {l : List α} {E : List (List Value)} (h : On D (fun Z => All2 (R Z) l E) w) : All2 (fun x c => On D (fun Z => R Z x c) w) l E := by
  induction l generalizing E with
  | nil => cases E with
    | nil => trivial
    | cons c r => exact h.now.elim
  | cons f l ih => cases E with
    | nil => exact h.now.elim
    | cons c r => exact ⟨h.map (fun _ h => h.1), ih (h.map (fun _ h => h.2))⟩
end Fd
end Go.Proofs.YtkjgifhklajifaaDoor
namespace Go.Proofs.YtkjgifhklajifaaDoor
open Go.RowKit
namespace Fd
open _root_.Go.Proofs.YtkjgifhklajifaaDoor.Nt (RH RH.cell RH.box RH.lt RH.new RH.ext RH.fre RH.set RH.other)
open _root_.Go.Proofs.YtkjgifhklajifaaDoor.Rw (All2 All2.get All2.length wpList_load_agg wp_stored)
/-- a builder that holds the bytes l -/
def IsB (B b : Nat) (l : List UInt8) (w : World) : Prop := Lib.IsBuilder 76 5 B b (Lib.byteCells l) w
/-- what a call that writes t leaves -/
def WrPost (B b : Nat) (l t : List UInt8) (w : World) (e : Ending) (w' : World) : Prop := e = .returned (.tuple #[]) ∧ IsB B b (l ++ t) w' ∧ Below B w w' ∧ BK b w w' ∧ w.heap.size ≤ w'.heap.size
theorem wbyte (B b : Nat) (l : List UInt8) (c : UInt8) (w : World) (h : IsB B b l w) (hlen : l.length + 1 ≤ 140737488355328) (hBw : B ≤ w.heap.size) :
    Calls Tryd.prog 77 #[.pointer (some ⟨b, 0, none⟩), .int .u8 c.toNat] w fun e w' => e = .returned .nilIface ∧ (IsB B b (l ++ [c]) w' ∧ Below B w w' ∧ BK b w w' ∧ w.heap.size ≤ w'.heap.size) := by
  refine (bld_byte B b _ c.toNat w h (by rw [Lib.byteCells_length]; exact hlen) hBw).mono ?_
  rintro e w' ⟨rfl, h1, h2, h3⟩
  refine ⟨rfl, ?_, h2, h3, h2.size⟩
  unfold IsB
  rw [Lib.byteCells_append]; exact h1
theorem wstr (B b : Nat) (l : List UInt8) (s : ByteArray) (w : World) (h : IsB B b l w) (hlen : l.length + s.size ≤ 140737488355328) (hBw : B ≤ w.heap.size) :
    Calls Tryd.prog 73 #[.pointer (some ⟨b, 0, none⟩), .string s] w fun e w' => e = .returned (.tuple #[.int .i64 s.size, .nilIface]) ∧ (IsB B b (l ++ s.data.toList) w' ∧ Below B w w' ∧ BK b w w' ∧ w.heap.size ≤ w'.heap.size) := by
  refine (bld_str B b _ s w h (by rw [Lib.byteCells_length]; exact hlen) hBw).mono ?_
  rintro e w' ⟨rfl, h1, h2, h3⟩
  refine ⟨rfl, ?_, h2, h3, h2.size⟩
  unfold IsB
  rw [Lib.byteCells_append]; exact h1
set_option maxRecDepth 100000 in
set_option maxHeartbeats 16000000 in
theorem quote_at (B b : Nat) (l : List UInt8) (s : ByteArray) (w : World) (h : IsB B b l w) (hlen : l.length + 2 * s.size ≤ 140737488355000) (hBw : B ≤ w.heap.size) :
    Calls Tryd.prog 76 #[.pointer (some ⟨b, 0, none⟩), .string s] w (WrPost B b l (quoL s.data.toList) w) := by
  have HI := Lib.hid h
  have hsz : s.data.toList.length = s.size := (Lib.size_eq s).symm
  have HLS := Lib.hid hsz
  have hsl : (s.size : Int) ≤ 9223372036854775807 := by omega
  have HLN := Lib.hid hlen
  have HBW := Lib.hid hBw
  have HE : Hid (∀ k, k ≤ s.size → (escL (s.data.toList.take k)).length ≤ 2 * s.size) := Lib.hid (fun k hk => by
    have h1 := esc_len (s.data.toList.take k)
    rw [List.length_take, hsz] at h1
    omega)
  clear h hlen hBw hsz
  go_enter Tryd.func76, Tryd.ntmps76
  go_wp2_with fail
  refine (wbyte B b l 34 w HI.out (by have := HLN.out; omega) HBW.out).mono ?_
  rintro e w1 ⟨rfl, h1, hb1, hk1, hs1⟩
  have HI1 := Lib.hid h1
  have HB1 := Lib.hid hb1
  have HK1 := Lib.hid hk1
  have HS1 := Lib.hid hs1
  clear h1 hb1 hk1 hs1
  go_wp2_with fail
  go_loopw [9] (fun i wr => ∃ k : Nat, k ≤ s.size ∧ i = .int .i64 (k : Int) ∧ Hid (IsB B b (l ++ 34 :: escL (s.data.toList.take k)) wr) ∧ Hid (Below B w wr) ∧ Hid (BK b w wr) ∧ Hid (w.heap.size ≤ wr.heap.size)) (fun i _ => s.size - (intOf i).toNat)
  case atStart => exact ⟨0, Nat.zero_le _, rfl, HI1, HB1, HK1, HS1⟩
  case round =>
    clear HI1 HB1 HK1 HS1
    obtain ⟨k, hk, rfl, HI1, HB1, HK1, HS1⟩ := hrel
    generalize hXX : wr = X at *
    clear hXX
    by_cases hlt : k < s.size
    · have hki : (k : Int) < (s.size : Int) := by omega
      have hk0 : (0 : Int) ≤ (k : Int) := Int.natCast_nonneg _
      have HT : Hid (l ++ 34 :: escL (s.data.toList.take (k + 1)) = (l ++ 34 :: escL (s.data.toList.take k)) ++ escB s[k]) := Lib.hid (by
        have h1 : k < s.data.toList.length := by rw [HLS.out]; exact hlt
        rw [List.take_succ_eq_append_getElem h1, esc_append]
        simp [escL]
        rfl)
      have HL : Hid ((l ++ 34 :: escL (s.data.toList.take k)).length + 2 ≤ 140737488355328) := Lib.hid (by
        have h1 := HE.out k hk
        have h2 := HLN.out
        rw [List.length_append, List.length_cons]
        omega)
      by_cases hq : (s[k].toNat : Int) = 34
      · have HE2 : Hid (escB s[k] = [92, s[k]]) := Lib.hid (by
          have e : s[k] = 34 := UInt8.toNat_inj.1 (by show s[k].toNat = 34; omega)
          unfold escB; rw [if_pos (Or.inl e)])
        have hqb : ((s[k].toNat : Int) == 34) = true := by simpa using hq
        clear hq
        go_wp2_with fail
        refine (wbyte B b _ 92 X HI1.out (by have := HL.out; omega) (Nat.le_trans HBW.out HS1.out)).mono ?_
        rintro e w2 ⟨rfl, h2, hb2, hk2, hs2⟩
        have HI2 := Lib.hid h2
        have HB2 := Lib.hid (HB1.out.trans hb2)
        have HK2 := Lib.hid (HK1.out.trans hk2)
        have HS2 := Lib.hid (Nat.le_trans HS1.out hs2)
        clear h2 hb2 hk2 hs2
        go_wp2_with fail
        refine (wbyte B b _ s[k] w2 HI2.out (by have := HL.out; rw [List.length_append]; simp only [List.length_singleton]; omega) (Nat.le_trans HBW.out HS2.out)).mono ?_
        rintro e w3 ⟨rfl, h3, hb3, hk3, hs3⟩
        have HI3 : Hid (IsB B b (l ++ 34 :: escL (s.data.toList.take (k + 1))) w3) := Lib.hid (by rw [HT.out, HE2.out]; rw [List.append_assoc] at h3; exact h3)
        have HB3 := Lib.hid (HB2.out.trans hb3)
        have HK3 := Lib.hid (HK2.out.trans hk3)
        have HS3 := Lib.hid (Nat.le_trans HS2.out hs3)
        clear h3 hb3 hk3 hs3
        go_wp2_with fail
        go_roundw
        case rel => exact ⟨k + 1, by omega, by go_num, HI3, HB3, HK3, HS3⟩
        case measure => simp [intOf]; omega
      · by_cases hp : (s[k].toNat : Int) = 92
        · have HE2 : Hid (escB s[k] = [92, s[k]]) := Lib.hid (by
            have e : s[k] = 92 := UInt8.toNat_inj.1 (by show s[k].toNat = 92; omega)
            unfold escB; rw [if_pos (Or.inr e)])
          have hqb : ((s[k].toNat : Int) == 34) = false := by simpa using hq
          have hpb : ((s[k].toNat : Int) == 92) = true := by simpa using hp
          clear hp hq
          go_wp2_with fail
          refine (wbyte B b _ 92 X HI1.out (by have := HL.out; omega) (Nat.le_trans HBW.out HS1.out)).mono ?_
          rintro e w2 ⟨rfl, h2, hb2, hk2, hs2⟩
          have HI2 := Lib.hid h2
          have HB2 := Lib.hid (HB1.out.trans hb2)
          have HK2 := Lib.hid (HK1.out.trans hk2)
          have HS2 := Lib.hid (Nat.le_trans HS1.out hs2)
          clear h2 hb2 hk2 hs2
          go_wp2_with fail
          refine (wbyte B b _ s[k] w2 HI2.out (by have := HL.out; rw [List.length_append]; simp only [List.length_singleton]; omega) (Nat.le_trans HBW.out HS2.out)).mono ?_
          rintro e w3 ⟨rfl, h3, hb3, hk3, hs3⟩
          have HI3 : Hid (IsB B b (l ++ 34 :: escL (s.data.toList.take (k + 1))) w3) := Lib.hid (by rw [HT.out, HE2.out]; rw [List.append_assoc] at h3; exact h3)
          have HB3 := Lib.hid (HB2.out.trans hb3)
          have HK3 := Lib.hid (HK2.out.trans hk3)
          have HS3 := Lib.hid (Nat.le_trans HS2.out hs3)
          clear h3 hb3 hk3 hs3
          go_wp2_with fail
          go_roundw
          case rel => exact ⟨k + 1, by omega, by go_num, HI3, HB3, HK3, HS3⟩
          case measure => simp [intOf]; omega
        · have HE2 : Hid (escB s[k] = [s[k]]) := Lib.hid (by
            unfold escB
            rw [if_neg (fun h => ?_)]
            rcases h with h | h
            · exact hq (by rw [h]; rfl)
            · exact hp (by rw [h]; rfl))
          have hqb : ((s[k].toNat : Int) == 34) = false := by simpa using hq
          have hpb : ((s[k].toNat : Int) == 92) = false := by simpa using hp
          clear hp hq
          go_wp2_with fail
          refine (wbyte B b _ s[k] X HI1.out (by have := HL.out; omega) (Nat.le_trans HBW.out HS1.out)).mono ?_
          rintro e w3 ⟨rfl, h3, hb3, hk3, hs3⟩
          have HI3 : Hid (IsB B b (l ++ 34 :: escL (s.data.toList.take (k + 1))) w3) := Lib.hid (by rw [HT.out, HE2.out]; exact h3)
          have HB3 := Lib.hid (HB1.out.trans hb3)
          have HK3 := Lib.hid (HK1.out.trans hk3)
          have HS3 := Lib.hid (Nat.le_trans HS1.out hs3)
          clear h3 hb3 hk3 hs3
          go_wp2_with fail
          go_roundw
          case rel => exact ⟨k + 1, by omega, by go_num, HI3, HB3, HK3, HS3⟩
          case measure => simp [intOf]; omega
    · obtain rfl : k = s.size := by omega
      have HT : Hid ((l ++ 34 :: escL (s.data.toList.take s.size)) ++ [34] = l ++ quoL s.data.toList) := Lib.hid (by
        rw [List.take_of_length_le (by have := HLS.out; omega)]
        unfold quoL; simp)
      have HL : Hid ((l ++ 34 :: escL (s.data.toList.take s.size)).length + 2 ≤ 140737488355328) := Lib.hid (by
        have h1 := HE.out s.size (Nat.le_refl _)
        have h2 := HLN.out
        rw [List.length_append, List.length_cons]
        omega)
      go_wp2_with fail
      refine (wbyte B b _ 34 X HI1.out (by have := HL.out; omega) (Nat.le_trans HBW.out HS1.out)).mono ?_
      rintro e w3 ⟨rfl, h3, hb3, hk3, hs3⟩
      rw [HT.out] at h3
      have HF : Hid (WrPost B b l (quoL s.data.toList) w (.returned (.tuple #[])) w3) := Lib.hid ⟨rfl, h3, HB1.out.trans hb3, HK1.out.trans hk3, Nat.le_trans HS1.out hs3⟩
      clear h3 hb3 hk3 hs3
      go_wp2_with fail
      go_end0
      exact HF.out
end Fd
end Go.Proofs.YtkjgifhklajifaaDoor
