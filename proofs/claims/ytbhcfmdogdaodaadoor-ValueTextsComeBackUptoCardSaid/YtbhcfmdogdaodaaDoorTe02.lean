/- Values that are read as data: how many parts they have, by the bulk of the datum. Numbers as lists of words of 32 bits, the least one first: plain mathematics, no program stands in it. Decimal numerals: plain mathematics. The numeral of a number: plain mathematics. Plain: texts cut at a byte; numerals of at most 13 digits, read and written. No program stands in it. Plain: the text of a value, as it is written; texts quoted; numbers of thousandths. No program stands in it. What a region that draws its order holds on to, where it ends in a store into a block of the call's own. No program stands in it. Rows: blocks of which all cells are known; a whole row read, and written. No program stands in it. -/
import Derived.Test.YtbhcfmdogdaodaaDoorTe01
import Derived.Test.YtbhcfmdogdaodaaDoorRows
import Derived.Lib.Hide
import Derived.Lib.SplitLaws
import Derived.Lib.AtoiTie
import Derived.Lib.ItoaNum
import Derived.Lib.TrimByte
import Derived.Lib.Repeat
import Derived.Lib.ReplaceLaws
import Derived.Test.YtbhcfmdogdaodaaDoorTe00
import Derived.Deep.RegionHeld3
import Derived.Deep.WholeRow
import Derived.Laws.CopyOwn
namespace Go.Proofs.YtbhcfmdogdaodaaDoor
open Go.RowKit
theorem elems_repsD {α β : Type} {R : α → List Value → Prop} {D : α → β} {sz : Nat} (hs : ∀ x c, R x c → c.length = sz) (f : Nat → List Value) (g : Nat → β) :
    ∀ (n : Nat), (∀ i, i < n → ∃ x, R x (f i) ∧ D x = g i) → ∃ l : List α, l.length = n ∧ Reps R l ((List.range n).flatMap f) ∧ (∀ i, i < n → ∀ j u, (f i)[j]? = some u → ((List.range n).flatMap f)[i * sz + j]? = some u) ∧ l.map D = (List.range n).map g
  | 0, _ => ⟨[], rfl, rfl, (fun i h => by omega), rfl⟩
  | n + 1, h => by
    obtain ⟨l, hl, hr, hg, hD⟩ := elems_repsD hs f g n (fun i hi => h i (by omega))
    obtain ⟨x, hx, hxD⟩ := h n (by omega)
    have hlen := Reps.length hs hr
    have happ : ∀ {l : List α} {cs : List Value}, Reps R l cs → Reps R (l ++ [x]) (cs ++ f n) := by
      intro l
      induction l with
      | nil => intro cs hc; cases hc; exact ⟨f n, [], by simp, hx, rfl⟩
      | cons y l ih =>
        rintro cs ⟨c, r, rfl, h1, h2⟩
        exact ⟨c, r ++ f n, by simp, h1, ih h2⟩
    have hfm : (List.range (n + 1)).flatMap f = (List.range n).flatMap f ++ f n := by
      rw [List.range_succ, List.flatMap_append]; simp
    refine ⟨l ++ [x], by simp [hl], by rw [hfm]; exact happ hr, fun i hi j u hu => ?_, by rw [List.range_succ, List.map_append, List.map_append, hD]; simp [hxD]⟩
    rw [hfm]
    by_cases hin : i < n
    · have := hg i hin j u hu
      rw [List.getElem?_append_left (List.getElem?_eq_some_iff.1 this).1]; exact this
    · have : i = n := by omega
      subst this
      rw [hl] at hlen
      rw [List.getElem?_append_right (by omega), ← hu]
      congr 1; omega
/-- A slice that is read as data, and the data of its elements. -/
theorem read_sliceD {H : Type} {enc : TypeId × Value → H} {P : Program} {W : World} {spare : Nat → Bool} {held : Bool} {α : Type} {R : α → List Value → Prop} {D : α → DataW H} {sz : Nat} (hs : ∀ x c, R x c → c.length = sz)
    {t e : TypeId} {fuel : Nat} {cs : List Value} {x : DataW H × List MemPlace} (ht : P.underlying t = some (.slice e)) (hC : P.cellsOf e = sz) (hsz : 0 < sz)
    (hel : ∀ n cs' y, n < fuel → DataW.trod enc P W 0 spare held n e cs' = some y → ∃ a, R a cs' ∧ D a = y.1)
    (h : DataW.trod enc P W 0 spare held fuel t cs = some x) : ∃ (a : Option Addr) (l : List α) (cap : Nat) (cells : List Value), cs = [.slice a l.length cap] ∧ Sl W (.slice a l.length cap) l.length cells ∧ Reps R l cells ∧ ((x.1 = .nil ∧ l = []) ∨ ∃ rest, x.1 = .slice (l.map D) rest) := by
  rcases DataW.trod_slice ht h with ⟨rfl, rfl⟩ | ⟨a, len, cap, elems, rest, n, hn, rfl, hx, hb, hl, hm, hlen, hel', _⟩
  · exact ⟨none, [], 0, [], rfl, Sl.nil W, rfl, .inl ⟨rfl, rfl⟩⟩
  · rw [hC] at hel'
    have hget : ∀ i, i < len → ∃ c, (∀ j u, c[j]? = some u → W.cell? ((a.add (i * sz)).add j) = some u) ∧ ∃ y, R y c ∧ D y = (elems.map (·.1)).getD i .nil := by
      intro i hi
      have h1 := hel' i hi
      have hi' : i < elems.length := by omega
      rw [List.getElem?_eq_getElem hi'] at h1
      obtain ⟨c, hc, htr⟩ := Option.bind_eq_some_iff.1 h1
      obtain ⟨_, hcl, hat⟩ := World.cells?_some hc
      obtain ⟨y, hy, hyD⟩ := hel n c _ (by omega) htr
      refine ⟨c, fun j u hu => ?_, y, hy, ?_⟩
      · rw [hat j (by have := (List.getElem?_eq_some_iff.1 hu).1; omega)]; exact hu
      · rw [hyD, List.getD_eq_getElem?_getD, List.getElem?_map, List.getElem?_eq_getElem hi']; rfl
    have hget' : ∀ i, ∃ c, i < len → (∀ j u, c[j]? = some u → W.cell? ((a.add (i * sz)).add j) = some u) ∧ ∃ y, R y c ∧ D y = (elems.map (·.1)).getD i .nil := by
      intro i
      by_cases hi : i < len
      · obtain ⟨c, hc⟩ := hget i hi; exact ⟨c, fun _ => hc⟩
      · exact ⟨[], fun h => (hi h).elim⟩
    obtain ⟨f, hf⟩ := Classical.axiomOfChoice hget'
    obtain ⟨l, hll, hr, hg, hD⟩ := elems_repsD hs f (fun i => (elems.map (·.1)).getD i .nil) len (fun i hi => (hf i hi).2)
    have hDe : l.map D = elems.map (·.1) := by
      rw [hD]
      apply List.ext_getElem?
      intro i
      rw [List.getElem?_map]
      by_cases hi : i < len
      · rw [List.getElem?_range hi]
        have hi' : i < (elems.map (·.1)).length := by rw [List.length_map]; omega
        show some ((elems.map (·.1)).getD i .nil) = _
        rw [List.getD_eq_getElem?_getD, List.getElem?_eq_getElem hi']; rfl
      · rw [List.getElem?_eq_none (by rw [List.length_range]; omega), List.getElem?_eq_none (by rw [List.length_map]; omega)]; rfl
    refine ⟨some a, l, cap, _, by rw [hll], ⟨_, _, rfl, by omega, hm, (fun h => by cases h), fun i u hu => ?_⟩, hr, .inr ⟨rest.map (·.1), by rw [hx, hDe]⟩⟩
    have hrl := Reps.length hs hr
    have hi : i < len * sz := by have := (List.getElem?_eq_some_iff.1 hu).1; rw [hll] at hrl; omega
    have hid : i / sz < len := Nat.div_lt_of_lt_mul (by rw [Nat.mul_comm]; exact hi)
    obtain ⟨y, hy, _⟩ := (hf _ hid).2
    have hfl := hs _ _ hy
    have hj : i % sz < (f (i / sz)).length := by rw [hfl]; exact Nat.mod_lt _ hsz
    have h2 := hg _ hid _ _ (List.getElem?_eq_getElem hj)
    rw [Nat.div_add_mod' i sz, hu] at h2
    have hcell := (hf _ hid).1 _ _ (List.getElem?_eq_getElem hj)
    have h0 : 0 < len := Nat.lt_of_le_of_lt (Nat.zero_le _) hid
    obtain ⟨y0, hy0, _⟩ := (hf 0 h0).2
    have hj0 : 0 < (f 0).length := by rw [hs _ _ hy0]; exact hsz
    have hc0 := (hf 0 h0).1 _ _ (List.getElem?_eq_getElem hj0)
    rw [Nat.zero_mul] at hc0
    have ha : a = ⟨a.block, a.off, none⟩ := by
      have e : (a.add 0).add 0 = a := by simp [Addr.add]
      rw [e] at hc0
      exact addr_of_cell hc0
    refine ⟨a.block, a.off, by rw [← ha], ?_⟩
    rw [ha, add_add_none, Nat.div_add_mod' i sz] at hcell
    rw [hcell, Option.some.inj h2]
section
variable {H : Type} {enc : TypeId × Value → H} {W : World} {spare : Nat → Bool} {held : Bool}
theorem repsD_V {l : List (V × DataW H)} : ∀ {cs : List Value}, Reps (fun (p : V × DataW H) c => RepV W p.1 c ∧ Fd.pN p.1 ≤ Rows.uptoBulk p.2) l cs → RepL W (l.map (·.1)) cs ∧ Fd.pNL (l.map (·.1)) ≤ Rows.uptoBulkAll (l.map (·.2)) := by
  induction l with
  | nil => intro cs h; simp only [List.map_nil, RepL, Fd.pNL]; exact ⟨h, Nat.zero_le _⟩
  | cons p r ih =>
    rintro cs ⟨c, q, e, h1, h2⟩
    obtain ⟨i1, i2⟩ := ih h2
    simp only [List.map_cons, RepL, Fd.pNL, Rows.uptoBulkAll]
    exact ⟨⟨c, q, e, h1.1, i1⟩, by have := h1.2; omega⟩
theorem repsD_F {l : List (F × DataW H)} : ∀ {cs : List Value}, Reps (fun (p : F × DataW H) c => RepF W p.1 c ∧ Fd.pN (Fd.vlF p.1) ≤ Rows.uptoBulk p.2) l cs → RepFs W (l.map (·.1)) cs ∧ Fd.pNF (l.map (·.1)) ≤ Rows.uptoBulkAll (l.map (·.2)) := by
  induction l with
  | nil => intro cs h; simp only [List.map_nil, RepFs, Fd.pNF]; exact ⟨h, Nat.zero_le _⟩
  | cons p r ih =>
    rintro cs ⟨c, q, e, h1, h2⟩
    obtain ⟨i1, i2⟩ := ih h2
    obtain ⟨⟨nm, v⟩, d⟩ := p
    simp only [List.map_cons, RepFs, Fd.pNF, Rows.uptoBulkAll]
    exact ⟨⟨c, q, e, h1.1, i1⟩, by have := h1.2; simp only [Fd.vlF] at this; omega⟩
/-- a value that is read, and its parts by the bulk of the datum -/
theorem read_VB : ∀ (fuel : Nat) (cs : List Value) (x : DataW H × List MemPlace), DataW.trod enc Tryd.prog W 0 spare held fuel 25 cs = some x → ∃ v, RepV W v cs ∧ Fd.pN v ≤ Rows.uptoBulk x.1 := by
  intro fuel
  induction fuel using Nat.strongRecOn with
  | _ fuel ih =>
  intro cs x h
  obtain ⟨xs, n, rfl, rfl, hlen, hxl, hf⟩ := DataW.trod_struct Tryd.underlying25 h
  rw [cells_api_Value] at hlen
  obtain ⟨c0, c1, c2, c3, c4, rfl⟩ := len5 hlen
  have f0 : DataW.trod enc Tryd.prog W 0 spare held n 3 (List.take (Tryd.prog.cellsOf 3) (List.drop 0 [c0, c1, c2, c3, c4])) = xs[0]? := hf 0 _ rfl
  rw [cells_int] at f0
  have f1 : DataW.trod enc Tryd.prog W 0 spare held n 3 (List.take (Tryd.prog.cellsOf 3) (List.drop 1 [c0, c1, c2, c3, c4])) = xs[1]? := hf 1 _ rfl
  rw [cells_int] at f1
  have f2 : DataW.trod enc Tryd.prog W 0 spare held n 9 (List.take (Tryd.prog.cellsOf 9) (List.drop 2 [c0, c1, c2, c3, c4])) = xs[2]? := hf 2 _ rfl
  rw [cells_string] at f2
  have f3 : DataW.trod enc Tryd.prog W 0 spare held n 22 (List.take (Tryd.prog.cellsOf 22) (List.drop 3 [c0, c1, c2, c3, c4])) = xs[3]? := hf 3 _ rfl
  rw [cells_api_Values] at f3
  have f4 : DataW.trod enc Tryd.prog W 0 spare held n 23 (List.take (Tryd.prog.cellsOf 23) (List.drop 4 [c0, c1, c2, c3, c4])) = xs[4]? := hf 4 _ rfl
  rw [cells_api_Fields] at f4
  simp only [List.drop, List.take] at f0 f1 f2 f3 f4
  have hxl5 : xs.length = 5 := by simp_all
  obtain ⟨y0, y1, y2, y3, y4, rfl⟩ : ∃ y0 y1 y2 y3 y4, xs = [y0, y1, y2, y3, y4] := by
    match xs, hxl5 with
    | [a, b, c, d, e], _ => exact ⟨a, b, c, d, e, rfl⟩
  simp only [List.getElem?_cons_zero, List.getElem?_cons_succ] at f0 f1 f2 f3 f4
  obtain ⟨k, h0, _, w0⟩ := DataW.trod_int Tryd.underlying3 f0
  obtain ⟨m, h1, _, w1⟩ := DataW.trod_int Tryd.underlying3 f1
  obtain ⟨s, h2, _, w2⟩ := DataW.trod_string Tryd.underlying9 f2
  obtain ⟨a3, is, q3, ics, h3, s3, r3, d3⟩ := read_sliceD (R := fun (p : V × DataW H) c => RepV W p.1 c ∧ Fd.pN p.1 ≤ Rows.uptoBulk p.2) (D := fun p => p.2) (fun _ _ h => RepV.len h.1) Tryd.underlying22 cells_api_Value (by omega) (fun j cs' y hj ht => by
    obtain ⟨v, hv, hp⟩ := ih j (by omega) cs' y ht
    exact ⟨(v, y.1), ⟨hv, hp⟩, rfl⟩) f3
  obtain ⟨a4, fs, q4, fcs, h4, s4, r4, d4⟩ := read_sliceD (R := fun (p : F × DataW H) c => RepF W p.1 c ∧ Fd.pN (Fd.vlF p.1) ≤ Rows.uptoBulk p.2) (D := fun p => p.2) (fun _ _ h => RepF.len h.1) Tryd.underlying23 cells_api_Field (by omega) (fun j cs' y hj ht => by
    obtain ⟨xs', n', rfl, rfl, hlen', hxl', hf'⟩ := DataW.trod_struct Tryd.underlying43 ht
    rw [cells_api_Field] at hlen'
    obtain ⟨d0, r, rfl, hr⟩ := len6 hlen'
    have g0 : DataW.trod enc Tryd.prog W 0 spare held n' 9 (List.take (Tryd.prog.cellsOf 9) (List.drop 0 (d0 :: r))) = xs'[0]? := hf' 0 _ rfl
    have g1 : DataW.trod enc Tryd.prog W 0 spare held n' 25 (List.take (Tryd.prog.cellsOf 25) (List.drop 1 (d0 :: r))) = xs'[1]? := hf' 1 _ rfl
    rw [cells_string] at g0
    rw [cells_api_Value] at g1
    simp only [List.drop, List.take] at g0
    rw [List.drop_succ_cons, List.drop_zero] at g1
    have hxl2 : xs'.length = 2 := by simp_all
    obtain ⟨z0, z1, rfl⟩ : ∃ z0 z1, xs' = [z0, z1] := by
      match xs', hxl2 with
      | [a, b], _ => exact ⟨a, b, rfl⟩
    simp only [List.getElem?_cons_zero, List.getElem?_cons_succ] at g0 g1
    rw [List.take_of_length_le (by omega)] at g1
    obtain ⟨nm, l0, _, wn⟩ := DataW.trod_string Tryd.underlying9 g0
    obtain ⟨v, hv, hp⟩ := ih n' (by omega) r _ g1
    cases l0
    refine ⟨(.mk nm v, .agg [z0.1, z1.1]), ⟨by simp only [RepF]; exact ⟨r, rfl, wn, hv⟩, ?_⟩, rfl⟩
    show Fd.pN v ≤ Rows.uptoBulk (.agg [z0.1, z1.1])
    simp only [Rows.uptoBulk, Rows.uptoBulkAll]
    omega) f4
  cases h0
  cases h1
  cases h2
  cases h3
  cases h4
  obtain ⟨l3, p3⟩ := repsD_V r3
  obtain ⟨l4, p4⟩ := repsD_F r4
  have b3 : Fd.pNL (is.map (·.1)) ≤ Rows.uptoBulk y3.1 := by
    rcases d3 with ⟨e, rfl⟩ | ⟨rest, e⟩
    · simp [Fd.pNL]
    · rw [e]; simp only [Rows.uptoBulk]; omega
  have b4 : Fd.pNF (fs.map (·.1)) ≤ Rows.uptoBulk y4.1 := by
    rcases d4 with ⟨e, rfl⟩ | ⟨rest, e⟩
    · simp [Fd.pNF]
    · rw [e]; simp only [Rows.uptoBulk]; omega
  refine ⟨.mk k m s (is.map (·.1)) (fs.map (·.1)), by simp only [RepV]; exact ⟨.slice a3 is.length q3, .slice a4 fs.length q4, ics, fcs, rfl, i64ok_of w0, i64ok_of w1, w2, by rw [List.length_map]; exact s3, l3, by rw [List.length_map]; exact s4, l4⟩, ?_⟩
  show Fd.pN _ ≤ Rows.uptoBulk (.agg [y0.1, y1.1, y2.1, y3.1, y4.1])
  simp only [Rows.uptoBulk, Rows.uptoBulkAll, Fd.pN]
  omega
end
end Go.Proofs.YtbhcfmdogdaodaaDoor
namespace Go.Proofs.YtbhcfmdogdaodaaDoor
namespace Nm
/-- the base -/
def B : Nat := 4294967296
theorem B_pos : 0 < B := by decide
def val : List Nat → Nat
  | [] => 0
  | x :: l => x + B * val l
def Dg (l : List Nat) : Prop := ∀ x ∈ l, x < B
theorem Dg.nil : Dg [] := fun _ h => by cases h
theorem Dg.cons {x : Nat} {l : List Nat} : Dg (x :: l) ↔ x < B ∧ Dg l := by
  constructor
  · intro h; exact ⟨h x (by simp), fun y hy => h y (by simp [hy])⟩
  · rintro ⟨h, k⟩ y hy
    rcases List.mem_cons.1 hy with rfl | hy
    · exact h
    · exact k y hy
theorem Dg.take {l : List Nat} (h : Dg l) (k : Nat) : Dg (l.take k) := fun x hx => h x (List.mem_of_mem_take hx)
theorem Dg.drop {l : List Nat} (h : Dg l) (k : Nat) : Dg (l.drop k) := fun x hx => h x (List.mem_of_mem_drop hx)
theorem Dg.get {l : List Nat} (h : Dg l) {k : Nat} (hk : k < l.length) : l[k] < B := h _ (List.getElem_mem hk)
theorem Dg.append {l m : List Nat} (h : Dg l) (k : Dg m) : Dg (l ++ m) := fun x hx => by
  rcases List.mem_append.1 hx with hx | hx
  · exact h x hx
  · exact k x hx
theorem Dg.set {l : List Nat} (h : Dg l) (k : Nat) {x : Nat} (hx : x < B) : Dg (l.set k x) := fun y hy => by
  rcases List.mem_or_eq_of_mem_set hy with hy | rfl
  · exact h y hy
  · exact hx
theorem Dg.zeros (n : Nat) : Dg (List.replicate n 0) := fun x hx => by rw [(List.mem_replicate.1 hx).2]; exact B_pos

end Nm
end Go.Proofs.YtbhcfmdogdaodaaDoor
namespace Go.Proofs.YtbhcfmdogdaodaaDoor
namespace Nm
def digv (c : UInt8) : Nat := c.toNat - 48
/-- what digits mean -/
def decv (l : List UInt8) : Nat := l.foldl (fun a c => a * 10 + digv c) 0
theorem decv_nil : decv [] = 0 := rfl
theorem decv_foldl (m : List UInt8) : ∀ a, m.foldl (fun a c => a * 10 + digv c) a = a * 10 ^ m.length + decv m := by
  induction m with
  | nil => intro a; simp [decv]
  | cons c m ih =>
    intro a
    unfold decv
    simp only [List.foldl_cons, List.length_cons]
    rw [ih, ih (0 * 10 + digv c), Nat.pow_succ, Nat.zero_mul, Nat.zero_add, Nat.add_mul, Nat.mul_assoc, Nat.mul_comm 10]
    omega
theorem decv_append (l m : List UInt8) : decv (l ++ m) = decv l * 10 ^ m.length + decv m := by
  unfold decv; rw [List.foldl_append]; exact decv_foldl m _
theorem decv_snoc (l : List UInt8) (c : UInt8) : decv (l ++ [c]) = decv l * 10 + digv c := by rw [decv_append]; simp [decv]
/-- digits alone -/
def Digs (l : List UInt8) : Prop := ∀ c ∈ l, 48 ≤ c.toNat ∧ c.toNat ≤ 57
theorem Digs.take {l : List UInt8} (h : Digs l) (k : Nat) : Digs (l.take k) := fun c hc => h c (List.mem_of_mem_take hc)
theorem Digs.drop {l : List UInt8} (h : Digs l) (k : Nat) : Digs (l.drop k) := fun c hc => h c (List.mem_of_mem_drop hc)
end Nm
end Go.Proofs.YtbhcfmdogdaodaaDoor
namespace Go.Proofs.YtbhcfmdogdaodaaDoor
namespace Nm
/-- the letter of a digit -/
def dch (d : Nat) : UInt8 := UInt8.ofNat (48 + d)
theorem dch_toNat {d : Nat} (h : d < 10) : (dch d).toNat = 48 + d := by
  unfold dch; rw [UInt8.toNat_ofNat']; exact Nat.mod_eq_of_lt (by omega)
theorem digv_dch {d : Nat} (h : d < 10) : digv (dch d) = d := by unfold digv; rw [dch_toNat h]; omega
/-- the numeral -/
def decS (x : Nat) : List UInt8 := if _h : x < 10 then [dch x] else decS (x / 10) ++ [dch (x % 10)]
  termination_by x
  decreasing_by omega
theorem decS_small {x : Nat} (h : x < 10) : decS x = [dch x] := by rw [decS]; rw [dif_pos h]
theorem decS_big {x : Nat} (h : ¬ x < 10) : decS x = decS (x / 10) ++ [dch (x % 10)] := by rw [decS]; rw [dif_neg h]
theorem decv_decS (x : Nat) : decv (decS x) = x := by
  induction x using Nat.strongRecOn with
  | ind x ih =>
    by_cases h : x < 10
    · rw [decS_small h, ← List.nil_append [dch x], decv_snoc, digv_dch h, decv_nil]; omega
    · rw [decS_big h, decv_snoc, ih _ (by omega), digv_dch (Nat.mod_lt _ (by decide))]; omega
theorem decS_digs (x : Nat) : Digs (decS x) := by
  induction x using Nat.strongRecOn with
  | ind x ih =>
    by_cases h : x < 10
    · rw [decS_small h]; intro c hc; rw [List.mem_singleton] at hc; subst hc; rw [dch_toNat h]; omega
    · rw [decS_big h]
      intro c hc
      rcases List.mem_append.1 hc with hc | hc
      · exact ih _ (by omega) c hc
      · rw [List.mem_singleton] at hc; subst hc; rw [dch_toNat (Nat.mod_lt _ (by decide))]; have := Nat.mod_lt x (show 10 > 0 by decide); omega
/-- digits alone, without needless zeros -/
def Whl (l : List UInt8) : Prop := Digs l ∧ ∃ c r, l = c :: r ∧ (r ≠ [] → c.toNat ≠ 48)
theorem decS_whl (x : Nat) : Whl (decS x) := by
  refine ⟨decS_digs x, ?_⟩
  induction x using Nat.strongRecOn with
  | ind x ih =>
    by_cases h : x < 10
    · exact ⟨_, [], decS_small h, fun h => absurd rfl h⟩
    · obtain ⟨c, r, h1, h2⟩ := ih (x / 10) (by omega)
      refine ⟨c, r ++ [dch (x % 10)], by rw [decS_big h, h1]; rfl, fun _ hc => ?_⟩
      by_cases hr : r = []
      · subst hr
        have hv := decv_decS (x / 10)
        rw [h1, ← List.nil_append [c], decv_snoc, decv_nil] at hv
        unfold digv at hv
        omega
      · exact h2 hr hc
theorem whl_pos {l : List UInt8} (h : Whl l) (hl : 1 < l.length) : 10 ^ (l.length - 1) ≤ decv l := by
  obtain ⟨hd, c, r, rfl, hc⟩ := h
  have hr : r ≠ [] := by intro h; subst h; simp at hl
  have := hc hr
  have h2 := hd c (by simp)
  rw [← List.singleton_append, decv_append, List.length_append]
  simp only [List.length_singleton]
  have h3 : 1 ≤ decv [c] := by rw [← List.nil_append [c], decv_snoc, decv_nil]; unfold digv; omega
  have h4 := Nat.mul_le_mul_right (10 ^ r.length) h3
  rw [show 1 + r.length - 1 = r.length by omega]
  omega
theorem decS_length {x k : Nat} (h : x < 10 ^ k) (hk : 1 ≤ k) : (decS x).length ≤ k := by
  by_cases h1 : 1 < (decS x).length
  · have := whl_pos (decS_whl x) h1
    rw [decv_decS] at this
    have h2 := (Nat.pow_lt_pow_iff_right (show 1 < 10 by decide)).1 (Nat.lt_of_le_of_lt this h)
    omega
  · omega
end Nm
end Go.Proofs.YtbhcfmdogdaodaaDoor
namespace Go.Proofs.YtbhcfmdogdaodaaDoor
namespace Tx
open _root_.Go.Proofs.YtbhcfmdogdaodaaDoor.Nm
/-- a numeral as strconv.Itoa writes it -/
def itoaS (v : Int) : List UInt8 := if v < 0 then 45 :: decS v.natAbs else decS v.toNat
theorem decDigits_is (u : Nat) : Lib.decDigits u = decS u := by
  induction u using Nat.strongRecOn with
  | ind u ih =>
    by_cases h : u < 10
    · rw [Lib.decDigits, dif_pos h, decS_small h]; rfl
    · rw [Lib.decDigits, dif_neg h, decS_big h, ih _ (by omega)]; rfl
theorem itoa_is (v : Int) : Lib.itoa v = itoaS v := by
  unfold Lib.itoa itoaS
  rw [decDigits_is, decDigits_is]
theorem itoaS_nat (n : Nat) : itoaS (n : Int) = decS n := by
  unfold itoaS
  rw [if_neg (by omega), Int.toNat_natCast]
end Tx
end Go.Proofs.YtbhcfmdogdaodaaDoor
namespace Go.Proofs.YtbhcfmdogdaodaaDoor
namespace Fd
open _root_.Go.Proofs.YtbhcfmdogdaodaaDoor.Tx _root_.Go.Proofs.YtbhcfmdogdaodaaDoor.Nm
def escB (b : UInt8) : List UInt8 := if b = 34 ∨ b = 92 then [92, b] else [b]
def escL (l : List UInt8) : List UInt8 := l.flatMap escB
def quoL (l : List UInt8) : List UInt8 := 34 :: (escL l ++ [34])
/-- three digits -/
def dig3 (r : Nat) : List UInt8 := [dch (r / 100), dch (r / 10 % 10), dch (r % 10)]
/-- what stands behind the whole part -/
def fracT (r : Nat) : List UInt8 := if r = 0 then [] else 46 :: Lib.trimRightB (dig3 r) 48
def numT (n : Int) : List UInt8 := (if n < 0 then [45] else []) ++ (decS (n.natAbs / 1000) ++ fracT (n.natAbs % 1000))
def commaL : List (List UInt8) → List UInt8
  | [] => []
  | [x] => x
  | x :: y :: r => x ++ 44 :: commaL (y :: r)
mutual
/-- a value's text -/
def wrV : V → List UInt8
  | .mk k n s is fs =>
    if k = 0 then [110, 117, 108, 108]
    else if k = 1 then (if n = 1 then [116, 114, 117, 101] else [102, 97, 108, 115, 101])
    else if k = 2 then numT n
    else if k = 3 then quoL s.data.toList
    else if k = 4 then 91 :: (commaL (wrL is) ++ [93])
    else 123 :: (commaL (wrF fs) ++ [125])
def wrL : List V → List (List UInt8)
  | [] => []
  | x :: r => wrV x :: wrL r
def wrF : List F → List (List UInt8)
  | [] => []
  | .mk nm x :: r => (quoL nm.data.toList ++ 58 :: wrV x) :: wrF r
end
theorem wrL_map : ∀ l : List V, wrL l = l.map wrV
  | [] => rfl
  | x :: r => by rw [wrL, wrL_map r]; rfl
def wrF1 (f : F) : List UInt8 := quoL (nmF f).data.toList ++ 58 :: wrV (vlF f)
theorem wrF_map : ∀ l : List F, wrF l = l.map wrF1
  | [] => rfl
  | .mk nm x :: r => by rw [wrF, wrF_map r]; rfl
/-- the pieces so far, each behind its comma -/
def runL : List (List UInt8) → List UInt8
  | [] => []
  | x :: r => 44 :: (x ++ runL r)
theorem comma_run : ∀ (x : List UInt8) (r : List (List UInt8)), commaL (x :: r) = x ++ runL r
  | x, [] => by simp [commaL, runL]
  | x, y :: r => by rw [commaL, comma_run y r, runL]
theorem run_snoc : ∀ (l : List (List UInt8)) (x : List UInt8), runL (l ++ [x]) = runL l ++ 44 :: x
  | [], x => by simp [runL]
  | y :: r, x => by rw [List.cons_append, runL, runL, run_snoc r x]; simp
theorem comma_snoc {l : List (List UInt8)} (h : l ≠ []) (x : List UInt8) : commaL (l ++ [x]) = commaL l ++ 44 :: x := by
  cases l with
  | nil => exact absurd rfl h
  | cons y r => rw [List.cons_append, comma_run, comma_run, run_snoc]; simp
theorem comma_take {l : List (List UInt8)} {q : Nat} {x : List UInt8} (h : l[q]? = some x) (hq : 0 < q) : commaL (l.take (q + 1)) = commaL (l.take q) ++ 44 :: x := by
  obtain ⟨hl, rfl⟩ := List.getElem?_eq_some_iff.1 h
  rw [List.take_succ_eq_append_getElem hl]
  refine comma_snoc (fun e => ?_) _
  have := congrArg List.length e
  rw [List.length_take, List.length_nil, Nat.min_eq_left (by omega)] at this
  omega
theorem comma_first {l : List (List UInt8)} {x : List UInt8} (h : l[0]? = some x) : commaL (l.take 1) = x := by
  cases l with
  | nil => cases h
  | cons y r =>
    have : y = x := by simpa using h
    rw [this]; simp [commaL]
/- lengths -/
theorem esc_len : ∀ l : List UInt8, (escL l).length ≤ 2 * l.length
  | [] => by simp [escL]
  | b :: r => by
    have := esc_len r
    unfold escL at this ⊢
    rw [List.flatMap_cons, List.length_append, List.length_cons]
    have : (escB b).length ≤ 2 := by unfold escB; split <;> simp
    omega
theorem quo_len (l : List UInt8) : (quoL l).length ≤ 2 * l.length + 2 := by
  have := esc_len l
  unfold quoL
  rw [List.length_cons, List.length_append]
  simp; omega
/- texts quoted by replacing twice -/
theorem esc_append (a b : List UInt8) : escL (a ++ b) = escL a ++ escL b := by unfold escL; rw [List.flatMap_append]
/- three digits -/
theorem dig3_tail {r : Nat} (h : r < 1000) : (decS (1000 + r)).drop 1 = dig3 r := by
  have e1 : (1000 + r) / 10 = 100 + r / 10 := by omega
  have e2 : (100 + r / 10) / 10 = 10 + r / 100 := by omega
  have e3 : (10 + r / 100) / 10 = 1 := by omega
  rw [decS_big (by omega), e1, decS_big (by omega), e2, decS_big (by omega), e3, decS_small (by omega),
    show (1000 + r) % 10 = r % 10 by omega, show (100 + r / 10) % 10 = r / 10 % 10 by omega, show (10 + r / 100) % 10 = r / 100 by omega]
  rfl
theorem dch_zero {d : Nat} (h : d < 10) : dch d = 48 ↔ d = 0 := by
  constructor
  · intro e
    have := congrArg UInt8.toNat e
    rw [dch_toNat h] at this
    simp at this; omega
  · rintro rfl; rfl
end Fd
end Go.Proofs.YtbhcfmdogdaodaaDoor
namespace Go.Proofs.YtbhcfmdogdaodaaDoor
open Go.RowKit
theorem ext_alloc (w : World) (o : Obj) : Below w.heap.size w (w.alloc o) := (Below.refl _ _).alloc (Nat.le_refl _) _
/-- A block that may be written. -/
def Fre (W : World) (b : Nat) : Prop := ∀ j, W.frozen? ⟨b, j, none⟩ = false
theorem Fre.ext {W W' : World} {b : Nat} {A : Array Value} (h : Fre W b) (hA : Box W b A) (hb : Below W.heap.size W W') : Fre W' b :=
  fun j => (hb.frozen (p := ⟨b, j, none⟩) hA.1).trans (h j)
theorem Fre.new (w : World) (A : Array Value) (t : TypeId) : Fre (w.alloc (.cells A t)) w.heap.size := fun j => by simp
/-- held: below B the world is W's, and two blocks read as they did -/
abbrev S2R (W : World) (B : Nat) (b1 : Nat) (A1 : Array Value) (b2 : Nat) (A2 : Array Value) (w' : World) : Prop :=
  Below B W w' ∧ (∀ j, w'.cell? ⟨b1, j, none⟩ = A1[j]?) ∧ (∀ j, w'.cell? ⟨b2, j, none⟩ = A2[j]?)
theorem S2R.start {W : World} {B b1 : Nat} {A1 : Array Value} {b2 : Nat} {A2 : Array Value} (h1 : Box W b1 A1) (h2 : Box W b2 A2) : S2R W B b1 A1 b2 A2 W.drew :=
  ⟨(Below.refl _ _).drew, h1.2, h2.2⟩
theorem S2R.ext {W w1 w2 : World} {B b1 : Nat} {A1 : Array Value} {b2 : Nat} {A2 : Array Value} (hb : Below w1.heap.size w1 w2) (h : S2R W B b1 A1 b2 A2 w1) (hB : B ≤ W.heap.size) (h1 : Box W b1 A1) (h2 : Box W b2 A2) : S2R W B b1 A1 b2 A2 w2 :=
  ⟨h.1.trans (hb.mono (Nat.le_trans hB h.1.size)), fun j => (hb.cell (p := ⟨b1, j, none⟩) (Nat.lt_of_lt_of_le h1.1 h.1.size)).trans (h.2.1 j), fun j => (hb.cell (p := ⟨b2, j, none⟩) (Nat.lt_of_lt_of_le h2.1 h.1.size)).trans (h.2.2 j)⟩
theorem S2R.set {W w1 : World} {B b1 : Nat} {A1 : Array Value} {b2 : Nat} {A2 : Array Value} {p : Addr} {v : Value} (h : S2R W B b1 A1 b2 A2 w1) (hp : B ≤ p.block) (h1 : b1 < B) (h2 : b2 < B) : S2R W B b1 A1 b2 A2 (w1.setCell p v) := by
  have hb : Below B w1 (w1.setCell p v) := (Below.refl _ _).setCell hp v
  exact ⟨h.1.trans hb, fun j => (hb.cell (p := ⟨b1, j, none⟩) h1).trans (h.2.1 j), fun j => (hb.cell (p := ⟨b2, j, none⟩) h2).trans (h.2.2 j)⟩

/-- The cells of a list of structs of sz cells each. -/
theorem flat_get {α : Type} {f : α → List Value} {sz : Nat} (hs : ∀ x, (f x).length = sz) : ∀ (l : List α) (k : Nat) (x : α), l[k]? = some x → ∀ j u, (f x)[j]? = some u → (l.flatMap f)[k * sz + j]? = some u
  | [], _, _, h, _, _, _ => by simp at h
  | y :: l, 0, x, h, j, u, hu => by
    obtain rfl : y = x := by simpa using h
    rw [List.flatMap_cons, Nat.zero_mul, Nat.zero_add, List.getElem?_append_left (List.getElem?_eq_some_iff.1 hu).1]; exact hu
  | y :: l, k + 1, x, h, j, u, hu => by
    have ih := flat_get hs l k x (by simpa using h) j u hu
    have e : (k + 1) * sz + j = (f y).length + (k * sz + j) := by rw [hs, Nat.add_mul]; omega
    rw [List.flatMap_cons, e, List.getElem?_append_right (by omega), ← ih]
    congr 1; omega
theorem flat_length {α : Type} {f : α → List Value} {sz : Nat} (hs : ∀ x, (f x).length = sz) (l : List α) : (l.flatMap f).length = l.length * sz := by
  induction l with
  | nil => simp
  | cons y l ih => rw [List.flatMap_cons, List.length_append, hs, ih, List.length_cons, Nat.add_mul]; omega
/-- What the call owns stays owned where nothing that is there turns. -/
theorem ownsRow_ext {w w' : World} {base e size n : Nat} {v : Value} {xs : List Value} (h : w.ownsRow base e size v n xs) (hb : Below w.heap.size w w') : w'.ownsRow base e size v n xs := by
  obtain ⟨h1, h2⟩ := h
  refine ⟨h1, ?_⟩
  rcases h2 with h2 | ⟨g, cap, cur, hv, hbg, hg, h3⟩
  · exact .inl h2
  · refine .inr ⟨g, cap, cur, hv, hbg, ?_, h3⟩
    rw [hb.block g (Array.getElem?_eq_some_iff.1 hg).1]; exact hg
/-- A slice over a new block. -/
theorem Sl.new (w : World) (A : Array Value) (t : TypeId) (n cap : Nat) (h : n ≤ cap) (hm : cap ≤ maxLen) : Sl (w.alloc (.cells A t)) (.slice (some ⟨w.heap.size, 0, none⟩) n cap) n A.toList :=
  ⟨_, _, rfl, h, hm, (fun h => by cases h), fun i x hx => ⟨_, _, rfl, by simpa using hx⟩⟩

theorem S2R.grown {W w1 w2 : World} {B b1 : Nat} {A1 : Array Value} {b2 : Nat} {A2 : Array Value} {row : Option Nat} (hg : w1.grownBy w2 row) (h : S2R W B b1 A1 b2 A2 w1) (hB : B ≤ W.heap.size) (h1 : Box W b1 A1) (h2 : Box W b2 A2)
    (hr : ∀ k, row = some k → B ≤ k ∧ k ≠ b1 ∧ k ≠ b2) : S2R W B b1 A1 b2 A2 w2 := by
  have l1 := Nat.lt_of_lt_of_le h1.1 h.1.size
  have l2 := Nat.lt_of_lt_of_le h2.1 h.1.size
  refine ⟨h.1.grown hg (Nat.le_trans hB h.1.size) (fun k e => (hr k e).1), fun j => ?_, fun j => ?_⟩
  · rw [World.cell?_of_block (w := w1) (hg.block b1 l1 (fun e => (hr b1 e.symm).2.1 rfl))]; exact h.2.1 j
  · rw [World.cell?_of_block (w := w1) (hg.block b2 l2 (fun e => (hr b2 e.symm).2.2 rfl))]; exact h.2.2 j
end Go.Proofs.YtbhcfmdogdaodaaDoor
namespace Go.Proofs.YtbhcfmdogdaodaaDoor
open Go.RowKit
namespace Nt
/-- the block b is a row of cells A -/
def RH (w : World) (b : Nat) (A : Array Value) (t : TypeId) : Prop := w.heap[b]? = some (.cells A t (0, 0))
theorem RH.lt {w : World} {b : Nat} {A : Array Value} {t : TypeId} (h : RH w b A t) : b < w.heap.size := (Array.getElem?_eq_some_iff.1 h).1
theorem RH.ext {w w' : World} {b : Nat} {A : Array Value} {t : TypeId} (h : RH w b A t) (hb : Below w.heap.size w w') : RH w' b A t := by
  unfold RH; rw [hb.block b h.lt]; exact h
theorem RH.cell {w : World} {b : Nat} {A : Array Value} {t : TypeId} (h : RH w b A t) (j : Nat) : w.cell? ⟨b, j, none⟩ = A[j]? := cell_of_row w b j A t _ h
theorem RH.fre {w : World} {b : Nat} {A : Array Value} {t : TypeId} (h : RH w b A t) (j : Nat) : w.frozen? ⟨b, j, none⟩ = false := by
  unfold RH at h
  simp [World.frozen?, h]
theorem RH.new (w : World) (A : Array Value) (t : TypeId) : RH (w.alloc (.cells A t)) w.heap.size A t := heap_alloc_last w _
theorem RH.row {w : World} {b : Nat} {A : Array Value} {t : TypeId} (h : RH w b A t) (A' : Array Value) : RH (w.setRow b A') b A' t := setRow_heap w b A A' t _ h
theorem RH.row_other {w : World} {b b' : Nat} {A : Array Value} {t : TypeId} (h : RH w b A t) (hne : b ≠ b') (A' : Array Value) : RH (w.setRow b' A') b A t := by
  unfold RH; rw [setRow_other w b' b A' hne]; exact h
theorem RH.set {w : World} {b : Nat} {A : Array Value} {t : TypeId} (h : RH w b A t) (j : Nat) (v : Value) : RH (w.setCell ⟨b, j, none⟩ v) b (A.setIfInBounds j v) t := by
  rw [setCell_eq_setRow w b j A t _ v h]; exact h.row _
theorem RH.set_other {w : World} {b : Nat} {A : Array Value} {t : TypeId} (h : RH w b A t) {p : Addr} (hne : b ≠ p.block) (v : Value) : RH (w.setCell p v) b A t := by
  unfold RH World.setCell
  simp only [Array.getElem?_modify]
  rw [if_neg (fun e => hne e.symm)]; exact h
theorem RH.other {w : World} {b : Nat} {A : Array Value} {t : TypeId} (h : RH w b A t) {p : Addr} (hne : b ≠ p.block) (v : Value) : RH (w.setCell p v) b A t := h.set_other hne v
theorem store_cells {P : Program} {w : World} {g : Nat} {t ty : TypeId} {old A : Array Value} (hg : RH w g old t) (hi : (P.info? ty).map (·.size) = some A.size) (ho : old.size = A.size) (h1 : A.all (·.oneCell') = true) :
    (storeCells ⟨g, 0, none⟩ A.toList 0).run P w = .ok () (w.setRow g A) := by
  have := run_storeVar_row (P := P) w g t ty old A hg hi ho h1
  cases hq : P.info? ty with
  | none => simp [hq] at hi
  | some i =>
    have hs : A.size = i.size := by simp [hq] at hi; omega
    simpa [storeVar, sizeOf, typeInfo, hq, Value.cells, hs] using this
theorem RH.box {w : World} {b : Nat} {A : Array Value} {t : TypeId} (h : RH w b A t) : Box w b A := ⟨h.lt, fun j => h.cell j⟩
def _root_.Go.TypeDesc.isStruct : TypeDesc → Bool
  | .struct _ => true
  | _ => false
end Nt
open Nt (RH RH.cell RH.other)
end Go.Proofs.YtbhcfmdogdaodaaDoor
