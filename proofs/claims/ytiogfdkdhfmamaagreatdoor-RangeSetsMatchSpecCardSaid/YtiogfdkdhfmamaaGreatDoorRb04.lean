/- Ranges in memory: cuts and stretches with the places of their texts. No program stands in it but the types' numbers. Ranges that are read as data. Printed by gen_laware.py. CompareVersions in the form that the sort asks: the world grown alone. Printed by gen_cmpg.py. Numbers as lists of words of 32 bits, the least one first: plain mathematics, no program stands in it. Decimal numerals: plain mathematics. Texts cut, split and joined; numerals written and read: the library's contracts at the seat, in plain words. -/
import Derived.Test.YtiogfdkdhfmamaaGreatDoorRb03
import Derived.Test.YtiogfdkdhfmamaaGreatDoorProg
import Derived.Test.YtiogfdkdhfmamaaGreatDoorRb01
import Derived.Shelf.SlSortCmp.KitK
import Derived.Lib.Hide
import Derived.Test.YtiogfdkdhfmamaaGreatDoorShelf
import Derived.Lib.SmallJoins
import Derived.Lib.Join
import Derived.Lib.AppendIntMem
import Derived.Lib.SplitLaws
import Derived.Lib.AtoiTie
import Derived.Lib.ItoaNum
namespace Go.Proofs.YtiogfdkdhfmamaaGreatDoor
open Go.RowKit
namespace Rg
open _root_.Go.Proofs.YtiogfdkdhfmamaaGreatDoor.Nt (RH RH.cell RH.box RH.lt RH.new RH.ext RH.fre RH.set RH.other)
/-- a cut, and where its Pre lies -/
structure CA where
  c : Ct
  a : Option Addr
  n : Nat
def vaL (x : CA) : List Value := [.int .i64 x.c.v.ma, .int .i64 x.c.v.mi, .int .i64 x.c.v.pa, .slice x.a x.c.v.pre.length x.n]
def caL (x : CA) : List Value := [.int .i64 x.c.v.ma, .int .i64 x.c.v.mi, .int .i64 x.c.v.pa, .slice x.a x.c.v.pre.length x.n, .bool x.c.af]
theorem caL_len (x : CA) : (caL x).length = 5 := rfl
theorem caL_one (x : CA) : ∀ v ∈ caL x, v.oneCell' = true := by
  intro v hv
  simp only [caL, List.mem_cons, List.not_mem_nil, or_false] at hv
  rcases hv with rfl | rfl | rfl | rfl | rfl <;> rfl
structure CA.ok (w : World) (x : CA) : Prop where
  sl : Sl w (.slice x.a x.c.v.pre.length x.n) x.c.v.pre.length (strs x.c.v.pre)
  sz : ∀ s ∈ x.c.v.pre, s.size ≤ maxLen
theorem CA.ok.rep {w : World} {x : CA} (h : x.ok w) : RepVer w x.c.v (vaL x) := ⟨x.a, x.n, rfl, h.sl, h.sz⟩
theorem CA.ok.ext {w w' : World} {x : CA} (h : x.ok w) (hb : Below w.heap.size w w') : x.ok w' := ⟨h.sl.ext hb, h.sz⟩
def zeroA : CA := ⟨zeroC, none, 0⟩
theorem zeroA_ok (w : World) : zeroA.ok w := ⟨Sl.nil w, fun _ h => by cases h⟩
/-- a stretch, and where its texts lie -/
structure SA where
  fr : CA
  to : CA
  en : Bool
def saL (s : SA) : List Value := caL s.fr ++ (caL s.to ++ [.bool s.en])
theorem saL_len (s : SA) : (saL s).length = 11 := rfl
theorem saL_one (x : SA) : ∀ v ∈ saL x, v.oneCell' = true := by
  intro v hv
  rcases List.mem_append.1 hv with h | h
  · exact caL_one _ v h
  rcases List.mem_append.1 h with h | h
  · exact caL_one _ v h
  · rw [List.mem_singleton.1 h]; rfl
structure SA.ok (w : World) (s : SA) : Prop where
  fr : s.fr.ok w
  to : s.to.ok w
theorem SA.ok.ext {w w' : World} {x : SA} (h : x.ok w) (hb : Below w.heap.size w w') : x.ok w' := ⟨h.fr.ext hb, h.to.ext hb⟩
def SA.raw (s : SA) : RS := ⟨s.fr.c, s.to.c, s.en⟩
/-- a range in memory -/
structure RA (w : World) (a : Option Addr) (n : Nat) (l : List SA) : Prop where
  sl : Sl w (.slice a l.length n) l.length (l.flatMap saL)
  ok : ∀ s ∈ l, s.ok w
theorem RA.ext {w w' : World} {a : Option Addr} {n : Nat} {l : List SA} (h : RA w a n l) (hb : Below w.heap.size w w') : RA w' a n l := ⟨h.sl.ext hb, fun s hs => (h.ok s hs).ext hb⟩
theorem RA.nil (w : World) : RA w none 0 [] := ⟨Sl.nil w, fun _ h => by cases h⟩
theorem sa_get {l : List SA} {k j : Nat} {s : SA} {x : Value} (hk : l[k]? = some s) (hj : (saL s)[j]? = some x) : (l.flatMap saL)[k * 11 + j]? = some x :=
  flat_get saL_len l k s hk j x hj
/-- the eleven cells of a stretch in a range -/
theorem RA.at {w : World} {a : Option Addr} {n k : Nat} {l : List SA} {s : SA} (h : RA w a n l) (hk : l[k]? = some s) : s.ok w ∧ ∃ b o, a = some ⟨b, o, none⟩ ∧ b < w.heap.size ∧ ∀ (j : Nat) (x : Value), (saL s)[j]? = some x → w.cell? ⟨b, o + (k * 11 + j), none⟩ = some x := by
  obtain ⟨hl, rfl⟩ := List.getElem?_eq_some_iff.1 hk
  refine ⟨h.ok _ (List.getElem_mem _), ?_⟩
  obtain ⟨b, o, rfl, h0⟩ := h.sl.addr (sa_get hk (j := 0) rfl)
  refine ⟨b, o, rfl, World.block_lt_of_cell? _ _ h0, fun j x hx => ?_⟩
  obtain ⟨b', o', e, h1⟩ := h.sl.addr (sa_get hk hx)
  cases e
  exact h1
/-- an aggregate read where its cells lie -/
theorem run_loadVar_agg {P : Program} {w : World} {b o : Nat} {ty : TypeId} {L : List Value} {d : TypeDesc} (h : ∀ (j : Nat) (v : Value), L[j]? = some v → w.cell? ⟨b, o + j, none⟩ = some v)
    (hu : P.underlying ty = some d) (hd : d.isStruct = true) (hi : (P.info? ty).map (·.size) = some L.length) : (loadVar ty ⟨b, o, none⟩).run P w = .ok (.agg L.toArray) w := by
  have hl : (loadCells ⟨b, o, none⟩ L.length).run P w = .ok L.toArray w := run_loadCells_list (P := P) w ⟨b, o, none⟩ L (fun j v hv => by rw [add_spot]; exact h j v hv)
  cases hq : P.info? ty with
  | none => simp [hq] at hi
  | some i =>
    have hs : i.size = L.length := by simpa [hq] using hi
    have hagg : (isAgg ty).run P w = .ok true w := by
      unfold isAgg
      rw [Sem.run_bind, run_underlying hu w]
      cases d <;> simp_all [TypeDesc.isStruct]
    simp [loadVar, Sem.run_bind, hagg, sizeOf, typeInfo, hq, hs, hl]
theorem wpList_load_agg {P : Program} {ops : Array Oper} {rest : List Oper} {o : Oper} {a : Act} {w : World} {Q : Exit → Act → World → Prop} (hgd : o.guard = none) (ty : TypeId) (x : Operand) (ho : o.op = .load ty x)
    (b f : Nat) (hx : a.eval x = .pointer (some ⟨b, f, none⟩)) (L : List Value) (hc : ∀ (j : Nat) (v : Value), L[j]? = some v → w.cell? ⟨b, f + j, none⟩ = some v) (d : TypeDesc)
    (hu : P.underlying ty = some d) (hd : d.isStruct = true) (hi : (P.info? ty).map (·.size) = some L.length)
    (h : wpList P ops Q rest (a.put o.dst (.agg L.toArray)) w) : wpList P ops Q (o :: rest) a w :=
  wpList_plain hgd fun K hK => by
    have : o.wp P a w K Q := by
      unfold Oper.wp execOp
      simp only [ho, hx, Instr.loadAt, Instr.sureAddr, Sem.run_bind, Sem.run_pure, Result.andThen_ok, run_loadVar_agg hc hu hd hi]
      exact hK _ _ h
    exact this
theorem ca_info (x : CA) : (Tryz.prog.info? 31).map (·.size) = some (caL x).length := (by kernel_rfl : (Tryz.prog.info? 31).map (·.size) = some 5)
theorem sa_info (s : SA) : (Tryz.prog.info? 33).map (·.size) = some (saL s).length := (by kernel_rfl : (Tryz.prog.info? 33).map (·.size) = some 11)
theorem sa_all (s : SA) : (saL s).toArray.all (·.oneCell') = true := by
  rw [Array.all_eq_true_iff_forall_mem]
  exact fun v hv => saL_one s v (by simpa using hv)
/-- the parts of a stretch in a block of its own -/
theorem rh_fr {w : World} {b : Nat} {t : TypeId} {s : SA} (h : RH w b (saL s).toArray t) (j : Nat) (v : Value) (hj : (caL s.fr)[j]? = some v) : w.cell? ⟨b, 0 + j, none⟩ = some v := by
  have hl := (List.getElem?_eq_some_iff.1 hj).1
  rw [h.cell, List.getElem?_toArray, Nat.zero_add]
  unfold saL
  rw [List.getElem?_append_left hl]; exact hj
theorem ca_va {x : CA} {j : Nat} {v : Value} (hj : (vaL x)[j]? = some v) : (caL x)[j]? = some v := by
  have e : caL x = vaL x ++ [.bool x.c.af] := rfl
  rw [e, List.getElem?_append_left (List.getElem?_eq_some_iff.1 hj).1]; exact hj
theorem rh_frv {w : World} {b : Nat} {t : TypeId} {s : SA} (h : RH w b (saL s).toArray t) (j : Nat) (v : Value) (hj : (vaL s.fr)[j]? = some v) : w.cell? ⟨b, 0 + j, none⟩ = some v := rh_fr h j v (ca_va hj)
theorem rh_to {w : World} {b : Nat} {t : TypeId} {s : SA} (h : RH w b (saL s).toArray t) (j : Nat) (v : Value) (hj : (caL s.to)[j]? = some v) : w.cell? ⟨b, 5 + j, none⟩ = some v := by
  have hl := (List.getElem?_eq_some_iff.1 hj).1
  rw [h.cell, List.getElem?_toArray]
  unfold saL
  rw [List.getElem?_append_right (by rw [caL_len]; omega), caL_len, List.getElem?_append_left (by omega), show 5 + j - 5 = j by omega]; exact hj
theorem rh_tov {w : World} {b : Nat} {t : TypeId} {s : SA} (h : RH w b (saL s).toArray t) (j : Nat) (v : Value) (hj : (vaL s.to)[j]? = some v) : w.cell? ⟨b, 5 + j, none⟩ = some v := rh_to h j v (ca_va hj)
theorem rh_en {w : World} {b : Nat} {t : TypeId} {s : SA} (h : RH w b (saL s).toArray t) : w.cell? ⟨b, 10, none⟩ = some (.bool s.en) := by rw [h.cell]; rfl
theorem va_info (x : CA) : (Tryz.prog.info? 29).map (·.size) = some (vaL x).length := (by kernel_rfl : (Tryz.prog.info? 29).map (·.size) = some 4)
/-- a new block that has been written -/
theorem wp_stored {P : Program} {c : Code} {Q : Exit → Act → World → Prop} {a : Act} {w : World} {Z A : Array Value} {t : TypeId}
    (h : ∀ W, Below w.heap.size w W → RH W w.heap.size A t → c.wp P Q a W) : c.wp P Q a ((w.alloc (.cells Z t)).setRow w.heap.size A) :=
  h _ (below_setRow (ext_alloc w _) (Nat.le_refl _) _) ((Nt.RH.new w Z t).row A)
end Rg
end Go.Proofs.YtiogfdkdhfmamaaGreatDoor
namespace Go.Proofs.YtiogfdkdhfmamaaGreatDoor
open Go.RowKit
namespace Rg
theorem ca_of {W : World} {c : List Value} {v : Ver} {af : Bool} (h : RepVer W v c) : ∃ x : CA, c = vaL x ∧ x.c = ⟨v, af⟩ ∧ x.ok W := by
  obtain ⟨a, n, rfl, h1, h2⟩ := h
  exact ⟨⟨⟨v, af⟩, a, n⟩, rfl, rfl, h1, h2⟩
theorem len5' {l : List Value} (h : l.length = 5) : ∃ r e, l = r ++ [e] ∧ r.length = 4 := by
  match l, h with
  | [a, b, c, d, e], _ => exact ⟨[a, b, c, d], e, rfl, rfl⟩
theorem len11' {l : List Value} (h : l.length = 11) : ∃ r s e, l = r ++ (s ++ [e]) ∧ r.length = 5 ∧ s.length = 5 := by
  match l, h with
  | [a, b, c, d, e, f, g, i, j, k, m], _ => exact ⟨[a, b, c, d, e], [f, g, i, j, k], m, rfl, rfl, rfl⟩
section
variable {H : Type} {enc : TypeId × Value → H} {W : World} {spare : Nat → Bool} {held : Bool}
theorem read_Cut (fuel : Nat) (cs : List Value) (x : DataW H × List MemPlace) (h : DataW.trod enc Tryz.prog W 0 spare held fuel 31 cs = some x) : ∃ y : CA, cs = caL y ∧ y.ok W := by
  obtain ⟨xs, n, rfl, _, hlen, hxl, hf⟩ := DataW.trod_struct Tryz.underlying31 h
  rw [show Tryz.prog.cellsOf 31 = 5 by kernel_rfl] at hlen
  obtain ⟨r, e, rfl, hr⟩ := len5' hlen
  have f0 : DataW.trod enc Tryz.prog W 0 spare held n 29 (List.take (Tryz.prog.cellsOf 29) (List.drop 0 (r ++ [e]))) = xs[0]? := hf 0 _ rfl
  have f1 : DataW.trod enc Tryz.prog W 0 spare held n 4 (List.take (Tryz.prog.cellsOf 4) (List.drop 4 (r ++ [e]))) = xs[1]? := hf 1 _ rfl
  rw [show Tryz.prog.cellsOf 29 = 4 by kernel_rfl, List.drop_zero, List.take_left' hr] at f0
  rw [show Tryz.prog.cellsOf 4 = 1 by kernel_rfl, List.drop_left' hr] at f1
  simp only [List.take] at f1
  have hx : ∀ i, i < 2 → ∃ y, xs[i]? = some y := fun i hi => ⟨_, List.getElem?_eq_getElem (by rw [hxl]; exact hi)⟩
  obtain ⟨y0, e0⟩ := hx 0 (by omega)
  obtain ⟨y1, e1⟩ := hx 1 (by omega)
  rw [e0] at f0
  rw [e1] at f1
  obtain ⟨v, hv⟩ := Rv.read_Ver _ _ _ f0
  obtain ⟨b, hb, _⟩ := DataW.trod_bool Tryz.underlying4 f1
  cases hb
  obtain ⟨y, rfl, hy, hok⟩ := ca_of (af := b) hv
  refine ⟨y, ?_, hok⟩
  have : y.c.af = b := by rw [hy]
  rw [← this]; rfl
theorem read_Stretch (fuel : Nat) (cs : List Value) (x : DataW H × List MemPlace) (h : DataW.trod enc Tryz.prog W 0 spare held fuel 33 cs = some x) : ∃ y : SA, cs = saL y ∧ y.ok W := by
  obtain ⟨xs, n, rfl, _, hlen, hxl, hf⟩ := DataW.trod_struct Tryz.underlying33 h
  rw [show Tryz.prog.cellsOf 33 = 11 by kernel_rfl] at hlen
  obtain ⟨r, s, e, rfl, hr, hs⟩ := len11' hlen
  have hrs : (r ++ s).length = 10 := by rw [List.length_append]; omega
  have f0 : DataW.trod enc Tryz.prog W 0 spare held n 31 (List.take (Tryz.prog.cellsOf 31) (List.drop 0 (r ++ (s ++ [e])))) = xs[0]? := hf 0 _ rfl
  have f1 : DataW.trod enc Tryz.prog W 0 spare held n 31 (List.take (Tryz.prog.cellsOf 31) (List.drop 5 (r ++ (s ++ [e])))) = xs[1]? := hf 1 _ rfl
  have f2 : DataW.trod enc Tryz.prog W 0 spare held n 4 (List.take (Tryz.prog.cellsOf 4) (List.drop 10 (r ++ (s ++ [e])))) = xs[2]? := hf 2 _ rfl
  rw [show Tryz.prog.cellsOf 31 = 5 by kernel_rfl, List.drop_zero, List.take_left' hr] at f0
  rw [show Tryz.prog.cellsOf 31 = 5 by kernel_rfl, List.drop_left' hr, List.take_left' hs] at f1
  rw [show Tryz.prog.cellsOf 4 = 1 by kernel_rfl, ← List.append_assoc, List.drop_left' hrs] at f2
  simp only [List.take] at f2
  have hx : ∀ i, i < 3 → ∃ y, xs[i]? = some y := fun i hi => ⟨_, List.getElem?_eq_getElem (by rw [hxl]; exact hi)⟩
  obtain ⟨y0, e0⟩ := hx 0 (by omega)
  obtain ⟨y1, e1⟩ := hx 1 (by omega)
  obtain ⟨y2, e2⟩ := hx 2 (by omega)
  rw [e0] at f0
  rw [e1] at f1
  rw [e2] at f2
  obtain ⟨u, rfl, hu⟩ := read_Cut _ _ _ f0
  obtain ⟨v, rfl, hv⟩ := read_Cut _ _ _ f1
  obtain ⟨b, hb, _⟩ := DataW.trod_bool Tryz.underlying4 f2
  cases hb
  exact ⟨⟨u, v, b⟩, rfl, hu, hv⟩
end
end Rg
end Go.Proofs.YtiogfdkdhfmamaaGreatDoor
namespace Go.Proofs.YtiogfdkdhfmamaaGreatDoor
open Go.RowKit Go.Sort
namespace Rg

/-- The world has grown alone: new blocks, and draws. -/
def Grew (w w' : World) : Prop := Below w.heap.size w w' ∧ w.drawn ≤ w'.drawn
theorem Grew.form {w w' : World} (h : Grew w w') : ∃ q os, w' = grow (w.drewN q) os := by
  obtain ⟨⟨h1, h2, h3, h4, h5⟩, h6⟩ := h
  refine ⟨w'.drawn - w.drawn, w'.heap.extract w.heap.size w'.heap.size, ?_⟩
  cases w with | mk H T D O U =>
  cases w' with | mk H' T' D' O' U' =>
  simp only at h1 h2 h3 h4 h5 h6
  subst h1; subst h2; subst h3
  simp only [grow, World.drewN, World.mk.injEq, true_and]
  refine ⟨?_, by omega, trivial⟩
  apply Array.ext
  · simp; omega
  · intro i hi1 hi2
    by_cases hlt : i < H.size
    · have := h5 i hlt
      rw [Array.getElem?_eq_getElem hi1, Array.getElem?_eq_getElem hlt] at this
      rw [Array.getElem_append_left hlt]
      exact Option.some.inj this
    · rw [Array.getElem_append_right (by omega)]
      simp only [Array.getElem_extract]
      congr 1; omega
abbrev S2D (W : World) (b1 : Nat) (A1 : Array Value) (b2 : Nat) (A2 : Array Value) (w' : World) : Prop :=
  S2 W b1 A1 b2 A2 w' ∧ W.drawn ≤ w'.drawn
theorem S2D.start {W : World} {b1 : Nat} {A1 : Array Value} {b2 : Nat} {A2 : Array Value} (h1 : Box W b1 A1) (h2 : Box W b2 A2) : S2D W b1 A1 b2 A2 W.drew :=
  ⟨S2.start h1 h2, Nat.le_succ _⟩
theorem S2D.alloc {W w1 : World} {b1 : Nat} {A1 : Array Value} {b2 : Nat} {A2 : Array Value} {o : Obj} (h : S2D W b1 A1 b2 A2 w1) (h1 : Box W b1 A1) (h2 : Box W b2 A2) : S2D W b1 A1 b2 A2 (w1.alloc o) :=
  ⟨S2.ext (ext_alloc _ _) h.1 h1 h2, h.2⟩
theorem wp_box2d {P : Program} {c : Code} {Q : Exit → Act → World → Prop} {a : Act} {w : World} {A B : Array Value} {t u : TypeId}
    (h : ∀ W, Grew w W → Box W w.heap.size A → Box W (w.heap.size + 1) B → c.wp P Q a W) : c.wp P Q a ((w.alloc (.cells A t)).alloc (.cells B u)) := by
  refine h _ ⟨by go_grown, Nat.le_refl _⟩ ((Box.new _ _ _).ext (by go_grown)) ?_
  have := Box.new (w.alloc (.cells A t)) B u
  simpa using this

theorem Grew.refl (w : World) : Grew w w := ⟨Below.refl _ _, Nat.le_refl _⟩
theorem Grew.trans {w w1 w2 : World} (h : Grew w w1) (k : Grew w1 w2) : Grew w w2 := ⟨ext_trans h.1 k.1, Nat.le_trans h.2 k.2⟩
theorem Grew.drew {w w1 : World} (h : Grew w w1) (n : Nat) : Grew w (w1.drewN n) := ⟨below_drewN h.1 _, Nat.le_trans h.2 (by simp [World.drewN])⟩

set_option maxHeartbeats 4000000 in
theorem comparePre_g (a b : ByteArray) (ha : a.size ≤ maxLen) (hb : b.size ≤ maxLen) (w : World) : Calls Tryz.prog 67 #[.string a, .string b] w fun e w' => e = .returned (.int .i64 (cmpP a b)) ∧ Grew w w' := by
  have key : ∀ (N : Int), (cmpP a b = N) → Calls Tryz.prog 67 #[.string a, .string b] w fun e w' => e = .returned (.int .i64 N) ∧ Grew w w' := by
    intro N hN
    by_cases h1 : numB a.data.toList = true
    · obtain ⟨e1, d1⟩ := num_true h1
      by_cases h2 : numB b.data.toList = true
      · obtain ⟨e2, d2⟩ := num_true h2
        have HN : Hid (numP a b = N) := by
          have : numP a b = N := by rw [← hN]; unfold cmpP; rw [if_pos h1, if_pos h2]
          exact this
        clear hN h1 h2
        go_enter Tryz.func67, Tryz.ntmps67
        go_wp2_with fail
        refine (value_allDigits a ha _).mono ?_
        rw [d1]
        rintro e w' ⟨rfl, rfl⟩
        go_wp2_with fail
        refine (value_allDigits b hb _).mono ?_
        rw [d2]
        rintro e w' ⟨rfl, rfl⟩
        clear d1 d2 e1 e2
        go_wp2_with (first | (go_at_call 80; refine (trimLeft_zero _ (by assumption) _).mono ?_; rintro e w' ⟨rfl, rfl⟩) | (go_at_call 65; refine (cmp_int _ _ _).mono ?_; rintro e w' ⟨rfl, rfl⟩) | (go_at_call 81; refine (strings_Compare _ _ _).mono ?_; rintro e w' ⟨rfl, rfl⟩))
        refine (or_two _ _ _ _ (by simp; rfl) (by simp; rfl)).mono ?_
        rintro e w' ⟨rfl, rfl⟩
        go_wp2
        go_ret
        exact ⟨ret_int HN.out, ⟨by go_grown, Nat.le_refl _⟩⟩
      · have HN : Hid (-1 = N) := by
          have : -1 = N := by rw [← hN]; unfold cmpP; rw [if_pos h1, if_neg h2]
          exact this
        clear hN h1
        rcases num_false h2 with e2 | ⟨e2, d2⟩
        · clear h2
          go_enter Tryz.func67, Tryz.ntmps67
          go_wp2_with fail
          refine (value_allDigits a ha _).mono ?_
          rw [d1]
          rintro e w' ⟨rfl, rfl⟩
          go_wp2
          go_ret
          exact ⟨ret_int HN.out, Grew.refl _⟩
        · clear h2
          go_enter Tryz.func67, Tryz.ntmps67
          go_wp2_with fail
          refine (value_allDigits a ha _).mono ?_
          rw [d1]
          rintro e w' ⟨rfl, rfl⟩
          go_wp2_with fail
          refine (value_allDigits b hb _).mono ?_
          rw [d2]
          rintro e w' ⟨rfl, rfl⟩
          go_wp2
          go_ret
          exact ⟨ret_int HN.out, Grew.refl _⟩
    · by_cases h2 : numB b.data.toList = true
      · obtain ⟨e2, d2⟩ := num_true h2
        have HN : Hid (1 = N) := by
          have : 1 = N := by rw [← hN]; unfold cmpP; rw [if_neg h1, if_pos h2]
          exact this
        clear hN h2
        rcases num_false h1 with e1 | ⟨e1, d1⟩
        · clear h1
          go_enter Tryz.func67, Tryz.ntmps67
          go_wp2_with fail
          refine (value_allDigits b hb _).mono ?_
          rw [d2]
          rintro e w' ⟨rfl, rfl⟩
          go_wp2
          go_ret
          exact ⟨ret_int HN.out, Grew.refl _⟩
        · clear h1
          go_enter Tryz.func67, Tryz.ntmps67
          go_wp2_with fail
          refine (value_allDigits a ha _).mono ?_
          rw [d1]
          rintro e w' ⟨rfl, rfl⟩
          go_wp2_with fail
          refine (value_allDigits b hb _).mono ?_
          rw [d2]
          rintro e w' ⟨rfl, rfl⟩
          go_wp2
          go_ret
          exact ⟨ret_int HN.out, Grew.refl _⟩
      · have HN : Hid (cmpS a b = N) := by
          have : cmpS a b = N := by rw [← hN]; unfold cmpP; rw [if_neg h1, if_neg h2]
          exact this
        clear hN
        rcases num_false h1 with e1 | ⟨e1, d1⟩
        · rcases num_false h2 with e2 | ⟨e2, d2⟩
          · clear h1 h2
            go_enter Tryz.func67, Tryz.ntmps67
            go_wp2_with (go_at_call 81; refine (strings_Compare _ _ _).mono ?_; rintro e w' ⟨rfl, rfl⟩)
            go_ret
            exact ⟨ret_int HN.out, Grew.refl _⟩
          · clear h1 h2
            go_enter Tryz.func67, Tryz.ntmps67
            go_wp2_with fail
            refine (value_allDigits b hb _).mono ?_
            rw [d2]
            rintro e w' ⟨rfl, rfl⟩
            go_wp2_with (go_at_call 81; refine (strings_Compare _ _ _).mono ?_; rintro e w' ⟨rfl, rfl⟩)
            go_ret
            exact ⟨ret_int HN.out, Grew.refl _⟩
        · rcases num_false h2 with e2 | ⟨e2, d2⟩
          · clear h1 h2
            go_enter Tryz.func67, Tryz.ntmps67
            go_wp2_with fail
            refine (value_allDigits a ha _).mono ?_
            rw [d1]
            rintro e w' ⟨rfl, rfl⟩
            go_wp2_with (go_at_call 81; refine (strings_Compare _ _ _).mono ?_; rintro e w' ⟨rfl, rfl⟩)
            go_ret
            exact ⟨ret_int HN.out, Grew.refl _⟩
          · clear h1 h2
            go_enter Tryz.func67, Tryz.ntmps67
            go_wp2_with fail
            refine (value_allDigits a ha _).mono ?_
            rw [d1]
            rintro e w' ⟨rfl, rfl⟩
            go_wp2_with fail
            refine (value_allDigits b hb _).mono ?_
            rw [d2]
            rintro e w' ⟨rfl, rfl⟩
            go_wp2_with (go_at_call 81; refine (strings_Compare _ _ _).mono ?_; rintro e w' ⟨rfl, rfl⟩)
            go_ret
            exact ⟨ret_int HN.out, Grew.refl _⟩
  exact key _ rfl
set_option maxHeartbeats 2000000 in
theorem compareFunc_g (is is' : List ByteArray) (a a' : Option Addr) (c c' : Nat) (w : World)
    (s1 : Sl w (.slice a is.length c) is.length (strs is)) (s2 : Sl w (.slice a' is'.length c') is'.length (strs is'))
    (h1 : ∀ x ∈ is, x.size ≤ maxLen) (h2 : ∀ x ∈ is', x.size ≤ maxLen) :
    Calls Tryz.prog 66 #[.slice a is.length c, .slice a' is'.length c', .func (.func 67) #[] #[]] w fun e w' => e = .returned (.int .i64 (cmpPs is is')) ∧ Grew w w' := by
  have H1 := Lib.hid h1
  have H2 := Lib.hid h2
  have hl1 := s1.len63
  have hl2 := s2.len63
  clear h1 h2
  go_enter Tryz.func66, Tryz.ntmps66
  go_wp2
  go_loopw [13] (fun i wr => ∃ k : Nat, k ≤ is.length ∧ k ≤ is'.length ∧ i = .int .i64 k ∧ Hid (cmpPs is is' = cmpPs (is.drop k) (is'.drop k)) ∧ Grew w wr) (fun i _ => is.length - (intOf i).toNat)
  case atStart => exact ⟨0, by omega, by omega, rfl, rfl, Grew.refl _⟩
  case round =>
    obtain ⟨k, hk, hk', rfl, HC, hb⟩ := hrel
    by_cases hlt : k < is.length
    · obtain ⟨b, o, rfl, e0⟩ := (s1.ext hb.1).addr (strs_get hlt)
      by_cases hlt' : k < is'.length
      · obtain ⟨b', o', rfl, f0⟩ := (s2.ext hb.1).addr (strs_get hlt')
        go_wp2_with fail
        refine (comparePre_g is[k] is'[k] (H1.out _ (List.getElem_mem _)) (H2.out _ (List.getElem_mem _)) _).mono ?_
        rintro e w2 ⟨rfl, hb2⟩
        have hbw : Grew w w2 := hb.trans hb2
        have hor : cmpPs is is' = orI (cmpP is[k] is'[k]) (cmpPs (is.drop (k + 1)) (is'.drop (k + 1))) := by
          rw [HC.out, drop_cons' hlt, drop_cons' hlt']; simp only [cmpPs]
        have HO := Lib.hid hor
        clear hor hb2
        generalize hz : cmpP is[k] is'[k] = z at *
        by_cases hz0 : z = 0
        · have hne : (z != 0) = false := by simp [hz0]
          have HZ := Lib.hid hz0
          clear hz hz0
          go_wp2
          go_roundw
          case rel => exact ⟨k + 1, by omega, by omega, by go_num, (by have := HO.out; rw [HZ.out] at this; exact this), hbw⟩
          case measure => simp [intOf]; omega
        · have hne : (z != 0) = true := by simp [hz0]
          clear hz
          have hfin : cmpPs is is' = z := by rw [HO.out]; unfold orI; rw [if_neg hz0]
          have HN := Lib.hid hfin
          clear hfin hz0
          go_wp2
          go_ret
          exact ⟨ret_int HN.out.symm, hbw⟩
      · have hfin : cmpPs is is' = 1 := by
          rw [HC.out, drop_cons' hlt, drop_nil' is' k (by omega)]; simp only [cmpPs]
        have HN := Lib.hid hfin
        clear hfin
        go_wp2
        go_ret
        exact ⟨ret_int HN.out.symm, hb⟩
    · by_cases hlt' : is.length < is'.length
      · have hfin : cmpPs is is' = -1 := by
          rw [HC.out, drop_nil' is k (by omega), drop_cons' (show k < is'.length by omega)]; simp only [cmpPs]
        have HN := Lib.hid hfin
        clear hfin
        go_wp2
        go_ret
        exact ⟨ret_int HN.out.symm, hb⟩
      · have hfin : cmpPs is is' = 0 := by
          rw [HC.out, drop_nil' is k (by omega), drop_nil' is' k (by omega)]; simp only [cmpPs]
        have HN := Lib.hid hfin
        clear hfin
        go_wp2
        go_ret
        exact ⟨ret_int HN.out.symm, hb⟩
set_option maxHeartbeats 4000000 in
theorem compareVersions_g (x y : Ver) (cs cs' : List Value) (w : World) (h : RepVer w x cs) (h' : RepVer w y cs') : Calls Tryz.prog 41 #[.agg cs.toArray, .agg cs'.toArray] w fun e w' => e = .returned (.int .i64 (cmpVer x y)) ∧ Grew w w' := by
  obtain ⟨a, c, rfl, s1, h1⟩ := h
  obtain ⟨a', c', rfl, s2, h2⟩ := h'
  obtain ⟨ma, mi, pa, pre⟩ := x
  obtain ⟨ma', mi', pa', pre'⟩ := y
  simp only at s1 h1 s2 h2
  have HV : Hid (cmpVer ⟨ma, mi, pa, pre⟩ ⟨ma', mi', pa', pre'⟩ = if orI (cmpI ma ma') (orI (cmpI mi mi') (cmpI pa pa')) ≠ 0 then orI (cmpI ma ma') (orI (cmpI mi mi') (cmpI pa pa')) else if pre = [] then (if pre' = [] then 0 else 1) else if pre' = [] then -1 else cmpPs pre pre') := rfl
  generalize cmpVer ⟨ma, mi, pa, pre⟩ ⟨ma', mi', pa', pre'⟩ = N at *
  have H1 := Lib.hid h1
  have H2 := Lib.hid h2
  have hl1 := s1.len63
  have hl2 := s2.len63
  clear h1 h2
  go_enter Tryz.func41, Tryz.ntmps41
  go_wp2_with fail
  refine wp_box2d fun W hbW hA hB => ?_
  go_region_held3 (S2D W w.heap.size #[Value.int IntKind.i64 ma, Value.int IntKind.i64 mi, Value.int IntKind.i64 pa, Value.slice a pre.length c] (w.heap.size + 1) #[Value.int IntKind.i64 ma', Value.int IntKind.i64 mi', Value.int IntKind.i64 pa', Value.slice a' pre'.length c'])
    (first | exact S2D.start hA hB | exact S2D.alloc (by assumption) hA hB | assumption)
    (first | (go_at_call 65; refine (cmp_int _ _ _).mono ?_; rintro e w1 ⟨rfl, rfl⟩) | (go_at_call 64; refine (or_three (cmpI ma ma') (cmpI mi mi') (cmpI pa pa') _ _ (by simp) (by simp) (by simp)).mono ?_; rintro e w3 ⟨rfl, rfl⟩))
  rename_i hS
  have hbW4 : Grew W _ := ⟨S2.base hS.1, hS.2⟩
  have hA4 := hA.ext hbW4.1
  have hB4 := hB.ext hbW4.1
  have hbw4 := hbW.trans hbW4
  generalize orI (cmpI ma ma') (orI (cmpI mi mi') (cmpI pa pa')) = q at *
  clear hS hbW4 hA hB hbW
  obtain ⟨_, hA5⟩ := id hA4
  obtain ⟨_, hB5⟩ := id hB4
  go_wp2_with fail
  rotate_left 5
  · refine (compareFunc_g pre pre' a a' c c' _ (s1.ext hbw4.1) (s2.ext hbw4.1) H1.out H2.out).mono ?_
    rintro e w5 ⟨rfl, hb5⟩
    have hn1 : pre ≠ [] := by assumption
    have hn2 : pre' ≠ [] := by rintro rfl; simp at *
    have hq : ¬ (q ≠ 0) := by simp_all
    have HN := Lib.hid (HV.out.trans ((if_neg hq).trans ((if_neg hn1).trans (if_neg hn2))))
    have hbw5 := hbw4.trans hb5
    clear hq hn1 hn2 HV hA4 hB4 hA5 hB5 hb5 hbw4 s1 s2
    go_wp2
    go_ret
    exact ⟨ret_int HN.out.symm, hbw5⟩
  all_goals
    go_ret
    refine ⟨ret_int ?_, hbw4⟩
    have hV := HV.out
    clear HV hA4 hB4 hA5 hB5 hbw4 s1 s2 H1 H2
    first | grind | (simp_all; done) | (simp_all; omega)
end Rg
end Go.Proofs.YtiogfdkdhfmamaaGreatDoor
namespace Go.Proofs.YtiogfdkdhfmamaaGreatDoor
namespace Nm
/-- the base -/
def B : Nat := 4294967296
def Dg (l : List Nat) : Prop := ∀ x ∈ l, x < B
theorem Dg.nil : Dg [] := fun _ h => by cases h
theorem Dg.cons {x : Nat} {l : List Nat} : Dg (x :: l) ↔ x < B ∧ Dg l := by
  constructor
  · intro h; exact ⟨h x (by simp), fun y hy => h y (by simp [hy])⟩
  · rintro ⟨h, k⟩ y hy
    rcases List.mem_cons.1 hy with rfl | hy
    · exact h
    · exact k y hy
theorem Dg.take {l : List Nat} (h : Dg l) (k : Nat) : Dg (l.take k) := fun x hx => h x (List.mem_of_mem_take hx)
theorem Dg.drop {l : List Nat} (h : Dg l) (k : Nat) : Dg (l.drop k) := fun x hx => h x (List.mem_of_mem_drop hx)
theorem Dg.get {l : List Nat} (h : Dg l) {k : Nat} (hk : k < l.length) : l[k] < B := h _ (List.getElem_mem hk)
theorem Dg.append {l m : List Nat} (h : Dg l) (k : Dg m) : Dg (l ++ m) := fun x hx => by
  rcases List.mem_append.1 hx with hx | hx
  · exact h x hx
  · exact k x hx
theorem Dg.set {l : List Nat} (h : Dg l) (k : Nat) {x : Nat} (hx : x < B) : Dg (l.set k x) := fun y hy => by
  rcases List.mem_or_eq_of_mem_set hy with hy | rfl
  · exact h y hy
  · exact hx
end Nm
end Go.Proofs.YtiogfdkdhfmamaaGreatDoor
namespace Go.Proofs.YtiogfdkdhfmamaaGreatDoor
namespace Nm
/-- digits alone -/
def Digs (l : List UInt8) : Prop := ∀ c ∈ l, 48 ≤ c.toNat ∧ c.toNat ≤ 57
theorem Digs.take {l : List UInt8} (h : Digs l) (k : Nat) : Digs (l.take k) := fun c hc => h c (List.mem_of_mem_take hc)
theorem Digs.drop {l : List UInt8} (h : Digs l) (k : Nat) : Digs (l.drop k) := fun c hc => h c (List.mem_of_mem_drop hc)
end Nm
end Go.Proofs.YtiogfdkdhfmamaaGreatDoor
namespace Go.Proofs.YtiogfdkdhfmamaaGreatDoor
open Go.RowKit
namespace Tx
open _root_.Go.Proofs.YtiogfdkdhfmamaaGreatDoor.Nm
/-- the table that strconv reads -/
def Tb (w : World) : Prop := Lib.TabIs Tryz.prog w "internal/strconv.uint64pow10" .u64 Lib.pow10Tab
theorem Tb.ext {w w' : World} (h : Tb w) (hb : Below w.heap.size w w') : Tb w' := by
  cases hg : Tryz.prog.globalNamed "internal/strconv.uint64pow10" with
  | none => unfold Tb Lib.TabIs World.var? at h; rw [hg] at h; cases h
  | some g => exact Joins.tab_stays hg h hb (Nat.le_refl _)
/-- the library's own bound holds some number -/
def Ml (w : World) : Prop := ∃ m : Int, w.cell? ⟨0, 0, none⟩ = some (.int .i64 m)
theorem Ml.ext {w w' : World} (h : Ml w) (hb : Below w.heap.size w w') : Ml w' := by
  obtain ⟨m, hm⟩ := h
  exact ⟨m, (hb.cell (World.block_lt_of_cell? _ _ hm)).trans hm⟩
end Tx
end Go.Proofs.YtiogfdkdhfmamaaGreatDoor
