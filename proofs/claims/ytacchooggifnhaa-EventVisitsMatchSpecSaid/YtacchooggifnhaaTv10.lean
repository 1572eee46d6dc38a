/- Plain: what the law on tallies wants; cells of tables and visits. Printed by gen_lawtau.py. The frame of every law: a call that returns true, and leaves all that was there as it was, meets the row's post. How the arguments of a law, read as data, lie in memory: slices of whatever elements, field by field. Events and strings that are read as data. -/
import Derived.Test.YtacchooggifnhaaTv09
import Derived.Test.YtacchooggifnhaaRows
import Derived.WalkKit
import Derived.ProofKit
import Derived.SizedLaws
import Derived.OpenShut
import Derived.JoinedCond
import Derived.Deep.CondSized
import Derived.Test.YtacchooggifnhaaTv00
import Derived.ChangeArms
import Derived.DataReads
import Derived.Test.YtacchooggifnhaaProg
namespace Go.Proofs.Ytacchooggifnhaa
open Go.RowKit
namespace Ex
theorem tl_cells {w : World} {a : Option Addr} {n c k : Nat} {l : List (Int × Value)} {e : Int × Value} (s : Sl w (.slice a n c) n (l.flatMap tlL)) (h : l[k]? = some e) :
    ∃ b o, a = some ⟨b, o, none⟩ ∧ w.cell? ⟨b, o + k * 2, none⟩ = some (.int .i64 e.1) ∧ w.cell? ⟨b, o + k * 2 + 1, none⟩ = some e.2 := by
  obtain ⟨b, o, ha, hc⟩ := s.elem tlL_len (by omega) h
  exact ⟨b, o, ha, hc 0 _ rfl, hc 1 _ rfl⟩
theorem TabAt.ext {w w' : World} {v : Value} {rows : List (Int × List Int)} (h : TabAt w v rows) (hb : Below w.heap.size w w') : TabAt w' v rows := by
  obtain ⟨bs, h1, h2, h3⟩ := h
  exact ⟨bs, h1, h2.ext hb, fun i b r hi hr => (h3 i b r hi hr).ext hb⟩
theorem tlX_get {rows : List (Int × List Int)} {bs : List Nat} {i b : Nat} {r : Int × List Int} (hb : bs[i]? = some b) (hr : rows[i]? = some r) : (tlX rows bs)[i]? = some (r.1, .slice (some ⟨b, 0, none⟩) r.2.length r.2.length) := by
  have hz : (rows.zip bs)[i]? = some (r, b) := List.getElem?_zip_eq_some.2 ⟨hr, hb⟩
  simp only [tlX, List.getElem?_map, hz, Option.map_some]
end Ex
end Go.Proofs.Ytacchooggifnhaa
namespace Go.Proofs.Ytacchooggifnhaa
open Go.ChangeShapes Go.WideShapes Go.ChangeAt Go.RowKit

theorem own : ownKnob Try.prog.godebug = none := by kernel_rfl
theorem laidOut : laidOutB Try.prog = true := by kernel_rfl

theorem trodAll_below {H : Type} {enc : TypeId × Value → H} {P : Program} (hl : laidOutB P = true) {W W' : World} (hb : Below W.heap.size W W') :
    ∀ (ts : List TypeId) (vs : List Value) (ds : List (DataW H)) (ps : List MemPlace), (∀ t ∈ ts, P.readableRec t = true ∧ t < P.types.size) →
      DataW.TrodAll enc P W 0 (fun _ => true) true ts vs ds ps → (∀ x ∈ ps, x.block < W.heap.size) →
      DataW.TrodAll enc P W' 0 (fun b => decide (b < W.heap.size)) true ts vs ds ps
  | [], [], [], ps, _, h, _ => h
  | t :: ts, v :: vs, d :: ds, ps, hr, h, hlt => by
    obtain ⟨p, q, h1, h2, rfl⟩ := h
    refine ⟨p, q, Below.trod hl (hr t (by simp)).1 (hr t (by simp)).2 h1 hb (fun x hx => hlt x (by simp [hx])), ?_, rfl⟩
    exact trodAll_below hl hb ts vs ds q (fun t ht => hr t (by simp [ht])) h2 (fun x hx => hlt x (by simp [hx]))
  | [], [], _ :: _, _, _, h, _ => h.elim
  | [], _ :: _, [], _, _, h, _ => h.elim
  | [], _ :: _, _ :: _, _, _, h, _ => h.elim
  | _ :: _, [], [], _, _, h, _ => h.elim
  | _ :: _, [], _ :: _, _, _, h, _ => h.elim
  | _ :: _, _ :: _, [], _, _, h, _ => h.elim

theorem law_post {H : Type} {enc : TypeId × Value → H} {P : Program} (hl : laidOutB P = true) {f : Func} {s : ChangeSpec} (hv : s.vars = []) {W W' : World} {args : Array Value} {ds gs : List (DataW H)} {before : List MemPlace}
    (hW : DataW.Whole enc P f.params.toList s.vars false W args.toList ds gs before) (hb : Below W.heap.size W W')
    (hr0 : (f.params.toList.all fun t => P.readableRec t && decide (t < P.types.size)) = true) {tb : TypeId} (hres : f.resultTypes = #[tb]) (hub : P.underlying tb = some .bool)
    (hfn : s.fn H (ds ++ gs) = { results := [.lit (.bool true)], args := ds }) : s.post enc P f false true false false W args (.bool true) W' := by
  have hlt := hW.lt
  have hr : ∀ t ∈ f.params.toList, P.readableRec t = true ∧ t < P.types.size := fun t ht => by simpa using List.all_eq_true.1 hr0 t ht
  have hW' := hW
  obtain ⟨p, q, hA, hV, rfl, _, _⟩ := hW
  rw [hv] at hV
  obtain ⟨rfl, rfl⟩ := trodVars_none hV
  refine ⟨ds, [], _, [], p, [], hW', ?_, ?_, ?_, hb.frame _, fun h => by cases h⟩
  · rw [hfn, hres]
    exact trodAll_cons_mk (shut_bool hub true) trodAll_mk0
  · rw [hfn]
    exact trodAll_below hl hb _ _ _ _ hr hA (fun x hx => hlt x (by simp [hx]))
  · rw [hfn, hv]
    rfl
end Go.Proofs.Ytacchooggifnhaa
namespace Go.Proofs.Ytacchooggifnhaa
open Go.RowKit

/-- A list of things, each of which lies in some cells, one behind the other. -/
def Reps {α : Type} (R : α → List Value → Prop) : List α → List Value → Prop
  | [], cs => cs = []
  | x :: xs, cs => ∃ c r, cs = c ++ r ∧ R x c ∧ Reps R xs r

theorem Reps.mono {α : Type} {R R' : α → List Value → Prop} (h : ∀ x c, R x c → R' x c) : ∀ {l : List α} {cs : List Value}, Reps R l cs → Reps R' l cs
  | [], _, hr => hr
  | _ :: _, _, ⟨c, r, e, h1, h2⟩ => ⟨c, r, e, h _ _ h1, Reps.mono h h2⟩
theorem Reps.length {α : Type} {R : α → List Value → Prop} {sz : Nat} (hs : ∀ x c, R x c → c.length = sz) : ∀ {l : List α} {cs : List Value}, Reps R l cs → cs.length = l.length * sz
  | [], _, hr => by cases hr; simp
  | _ :: l, _, ⟨c, r, e, h1, h2⟩ => by
    subst e
    rw [List.length_append, hs _ _ h1, Reps.length hs h2, List.length_cons, Nat.add_mul]
    omega
theorem Reps.get {α : Type} {R : α → List Value → Prop} {sz : Nat} (hs : ∀ x c, R x c → c.length = sz) : ∀ {l : List α} {cs : List Value} {i : Nat} {x : α}, Reps R l cs → l[i]? = some x → ∃ c, R x c ∧ ∀ j u, c[j]? = some u → cs[i * sz + j]? = some u
  | [], _, _, _, _, hx => by simp at hx
  | y :: l, cs, 0, x, h, hx => by
    obtain ⟨c, r, rfl, h1, h2⟩ := h
    obtain rfl : y = x := by simpa using hx
    refine ⟨c, h1, fun j u hu => ?_⟩
    rw [Nat.zero_mul, Nat.zero_add, List.getElem?_append_left (List.getElem?_eq_some_iff.1 hu).1]; exact hu
  | y :: l, cs, i + 1, x, h, hx => by
    obtain ⟨c, r, rfl, h1, h2⟩ := h
    obtain ⟨c', h3, h4⟩ := Reps.get hs h2 (by simpa using hx)
    refine ⟨c', h3, fun j u hu => ?_⟩
    have hl := hs _ _ h1
    have e : (i + 1) * sz + j = c.length + (i * sz + j) := by rw [hl, Nat.add_mul]; omega
    rw [e, List.getElem?_append_right (by omega), ← h4 j u hu]
    congr 1; omega

theorem addr_of_cell {w : World} {a : Addr} {v : Value} (h : w.cell? a = some v) : a = ⟨a.block, a.off, none⟩ := by
  cases a with | mk b o s =>
  cases s with
  | none => rfl
  | some k =>
    exfalso
    unfold World.cell? at h
    simp only at h
    split at h <;> simp at h

theorem add_add_none (b o i j : Nat) : ((⟨b, o, none⟩ : Addr).add i).add j = ⟨b, o + (i + j), none⟩ := by
  rw [add_spot, add_spot, Nat.add_assoc]

/-- The elements of a slice that is read, one after the other, out of a reading of each. -/
theorem elems_reps {α : Type} {R : α → List Value → Prop} {sz : Nat} (hs : ∀ x c, R x c → c.length = sz) (f : Nat → List Value) :
    ∀ (n : Nat), (∀ i, i < n → ∃ x, R x (f i)) → ∃ l : List α, l.length = n ∧ Reps R l ((List.range n).flatMap f) ∧ ∀ i, i < n → ∀ j u, (f i)[j]? = some u → ((List.range n).flatMap f)[i * sz + j]? = some u
  | 0, _ => ⟨[], rfl, rfl, fun i h => by omega⟩
  | n + 1, h => by
    obtain ⟨l, hl, hr, hg⟩ := elems_reps hs f n (fun i hi => h i (by omega))
    obtain ⟨x, hx⟩ := h n (by omega)
    have hlen := Reps.length hs hr
    have happ : ∀ {l : List α} {cs : List Value}, Reps R l cs → Reps R (l ++ [x]) (cs ++ f n) := by
      intro l
      induction l with
      | nil => intro cs hc; cases hc; exact ⟨f n, [], by simp, hx, rfl⟩
      | cons y l ih =>
        rintro cs ⟨c, r, rfl, h1, h2⟩
        exact ⟨c, r ++ f n, by simp, h1, ih h2⟩
    have hfm : (List.range (n + 1)).flatMap f = (List.range n).flatMap f ++ f n := by
      rw [List.range_succ, List.flatMap_append]; simp
    refine ⟨l ++ [x], by simp [hl], by rw [hfm]; exact happ hr, fun i hi j u hu => ?_⟩
    rw [hfm]
    by_cases hin : i < n
    · have := hg i hin j u hu
      rw [List.getElem?_append_left (List.getElem?_eq_some_iff.1 this).1]; exact this
    · have : i = n := by omega
      subst this
      rw [hl] at hlen
      rw [List.getElem?_append_right (by omega), ← hu]
      congr 1; omega

/-- A slice that is read as data, out of how its elements are read. -/
theorem read_slice {H : Type} {enc : TypeId × Value → H} {P : Program} {W : World} {spare : Nat → Bool} {held : Bool} {α : Type} {R : α → List Value → Prop} {sz : Nat} (hs : ∀ x c, R x c → c.length = sz)
    {t e : TypeId} {fuel : Nat} {cs : List Value} {x : DataW H × List MemPlace} (ht : P.underlying t = some (.slice e)) (hC : P.cellsOf e = sz) (hsz : 0 < sz)
    (hel : ∀ n cs' y, n < fuel → DataW.trod enc P W 0 spare held n e cs' = some y → ∃ a, R a cs')
    (h : DataW.trod enc P W 0 spare held fuel t cs = some x) : ∃ (a : Option Addr) (l : List α) (cap : Nat) (cells : List Value), cs = [.slice a l.length cap] ∧ Sl W (.slice a l.length cap) l.length cells ∧ Reps R l cells := by
  rcases DataW.trod_slice ht h with ⟨rfl, _⟩ | ⟨a, len, cap, elems, rest, n, hn, rfl, hx, hb, hl, hm, hlen, hel', _⟩
  · exact ⟨none, [], 0, [], rfl, Sl.nil W, rfl⟩
  · rw [hC] at hel'
    have hget : ∀ i, i < len → ∃ c, (∀ j u, c[j]? = some u → W.cell? ((a.add (i * sz)).add j) = some u) ∧ ∃ y, R y c := by
      intro i hi
      have h1 := hel' i hi
      have hi' : i < elems.length := by omega
      rw [List.getElem?_eq_getElem hi'] at h1
      obtain ⟨c, hc, htr⟩ := Option.bind_eq_some_iff.1 h1
      obtain ⟨_, hcl, hat⟩ := World.cells?_some hc
      refine ⟨c, fun j u hu => ?_, hel n c _ (by omega) htr⟩
      rw [hat j (by have := (List.getElem?_eq_some_iff.1 hu).1; omega)]; exact hu
    have hget' : ∀ i, ∃ c, i < len → (∀ j u, c[j]? = some u → W.cell? ((a.add (i * sz)).add j) = some u) ∧ ∃ y, R y c := by
      intro i
      by_cases hi : i < len
      · obtain ⟨c, hc⟩ := hget i hi; exact ⟨c, fun _ => hc⟩
      · exact ⟨[], fun h => (hi h).elim⟩
    obtain ⟨f, hf⟩ := Classical.axiomOfChoice hget'
    obtain ⟨l, hll, hr, hg⟩ := elems_reps hs f len (fun i hi => (hf i hi).2)
    refine ⟨some a, l, cap, _, by rw [hll], ⟨_, _, rfl, by omega, hm, (fun h => by cases h), fun i u hu => ?_⟩, hr⟩
    have hrl := Reps.length hs hr
    have hi : i < len * sz := by have := (List.getElem?_eq_some_iff.1 hu).1; rw [hll] at hrl; omega
    have hid : i / sz < len := Nat.div_lt_of_lt_mul (by rw [Nat.mul_comm]; exact hi)
    obtain ⟨y, hy⟩ := (hf _ hid).2
    have hfl := hs _ _ hy
    have hj : i % sz < (f (i / sz)).length := by rw [hfl]; exact Nat.mod_lt _ hsz
    have h2 := hg _ hid _ _ (List.getElem?_eq_getElem hj)
    rw [Nat.div_add_mod' i sz, hu] at h2
    have hcell := (hf _ hid).1 _ _ (List.getElem?_eq_getElem hj)
    have h0 : 0 < len := Nat.lt_of_le_of_lt (Nat.zero_le _) hid
    obtain ⟨y0, hy0⟩ := (hf 0 h0).2
    have hj0 : 0 < (f 0).length := by rw [hs _ _ hy0]; exact hsz
    have hc0 := (hf 0 h0).1 _ _ (List.getElem?_eq_getElem hj0)
    rw [Nat.zero_mul] at hc0
    have ha : a = ⟨a.block, a.off, none⟩ := by
      have e : (a.add 0).add 0 = a := by simp [Addr.add]
      rw [e] at hc0
      exact addr_of_cell hc0
    refine ⟨a.block, a.off, by rw [← ha], ?_⟩
    rw [ha, add_add_none, Nat.div_add_mod' i sz] at hcell
    rw [hcell, Option.some.inj h2]

theorem i64ok_of {n : Int} (h : (Lit.int .i64 n).wf = true) : i64ok n := by
  simpa [Lit.wf, IntKind.min, IntKind.max, IntKind.signed, IntKind.bits, i64ok] using h
theorem uncons {l : List Value} {n : Nat} (h : l.length = n + 1) : ∃ c r, l = c :: r ∧ r.length = n := by
  cases l with
  | nil => cases h
  | cons c r => exact ⟨c, r, rfl, by simpa using h⟩
end Go.Proofs.Ytacchooggifnhaa
namespace Go.Proofs.Ytacchooggifnhaa
open Go.RowKit
theorem read_Event {H : Type} {enc : TypeId × Value → H} {W : World} {spare : Nat → Bool} {held : Bool} (fuel : Nat) (cs : List Value) (x : DataW H × List MemPlace) (h : DataW.trod enc Try.prog W 0 spare held fuel 42 cs = some x) :
    ∃ (x0 : ByteArray) (x1 : Int) (x2 : Int) (x3 : Int) (x4 : ByteArray) (x5 : ByteArray) (x6 : Int) (x7 : Int), cs = [.string x0, .int .i64 x1, .int .i64 x2, .int .i64 x3, .string x4, .string x5, .int .i64 x6, .int .i64 x7] ∧ x0.size ≤ maxLen ∧ i64ok x1 ∧ i64ok x2 ∧ i64ok x3 ∧ x4.size ≤ maxLen ∧ x5.size ≤ maxLen ∧ i64ok x6 ∧ i64ok x7 := by
  obtain ⟨xs, n, rfl, _, hlen, hxl, hf⟩ := DataW.trod_struct Try.underlying42 h
  rw [show Try.prog.cellsOf 42 = 8 by kernel_rfl] at hlen
  obtain ⟨c0, r0, rfl, l0⟩ := uncons hlen
  obtain ⟨c1, r1, rfl, l1⟩ := uncons l0
  obtain ⟨c2, r2, rfl, l2⟩ := uncons l1
  obtain ⟨c3, r3, rfl, l3⟩ := uncons l2
  obtain ⟨c4, r4, rfl, l4⟩ := uncons l3
  obtain ⟨c5, r5, rfl, l5⟩ := uncons l4
  obtain ⟨c6, r6, rfl, l6⟩ := uncons l5
  obtain ⟨c7, r7, rfl, l7⟩ := uncons l6
  obtain rfl := List.length_eq_zero_iff.1 l7
  have hx : ∀ i, i < 8 → ∃ y, xs[i]? = some y := fun i hi => ⟨_, List.getElem?_eq_getElem (by rw [hxl]; exact hi)⟩
  have f0 : DataW.trod enc Try.prog W 0 spare held n 9 (List.take (Try.prog.cellsOf 9) (List.drop 0 [c0, c1, c2, c3, c4, c5, c6, c7])) = xs[0]? := hf 0 _ rfl
  rw [show Try.prog.cellsOf 9 = 1 by kernel_rfl] at f0
  simp only [List.drop, List.take] at f0
  obtain ⟨y0, e0⟩ := hx 0 (by omega)
  rw [e0] at f0
  obtain ⟨x0, h0, _, w0⟩ := DataW.trod_string Try.underlying9 f0
  have f1 : DataW.trod enc Try.prog W 0 spare held n 3 (List.take (Try.prog.cellsOf 3) (List.drop 1 [c0, c1, c2, c3, c4, c5, c6, c7])) = xs[1]? := hf 1 _ rfl
  rw [show Try.prog.cellsOf 3 = 1 by kernel_rfl] at f1
  simp only [List.drop, List.take] at f1
  obtain ⟨y1, e1⟩ := hx 1 (by omega)
  rw [e1] at f1
  obtain ⟨x1, h1, _, w1⟩ := DataW.trod_int Try.underlying3 f1
  have f2 : DataW.trod enc Try.prog W 0 spare held n 3 (List.take (Try.prog.cellsOf 3) (List.drop 2 [c0, c1, c2, c3, c4, c5, c6, c7])) = xs[2]? := hf 2 _ rfl
  rw [show Try.prog.cellsOf 3 = 1 by kernel_rfl] at f2
  simp only [List.drop, List.take] at f2
  obtain ⟨y2, e2⟩ := hx 2 (by omega)
  rw [e2] at f2
  obtain ⟨x2, h2, _, w2⟩ := DataW.trod_int Try.underlying3 f2
  have f3 : DataW.trod enc Try.prog W 0 spare held n 3 (List.take (Try.prog.cellsOf 3) (List.drop 3 [c0, c1, c2, c3, c4, c5, c6, c7])) = xs[3]? := hf 3 _ rfl
  rw [show Try.prog.cellsOf 3 = 1 by kernel_rfl] at f3
  simp only [List.drop, List.take] at f3
  obtain ⟨y3, e3⟩ := hx 3 (by omega)
  rw [e3] at f3
  obtain ⟨x3, h3, _, w3⟩ := DataW.trod_int Try.underlying3 f3
  have f4 : DataW.trod enc Try.prog W 0 spare held n 9 (List.take (Try.prog.cellsOf 9) (List.drop 4 [c0, c1, c2, c3, c4, c5, c6, c7])) = xs[4]? := hf 4 _ rfl
  rw [show Try.prog.cellsOf 9 = 1 by kernel_rfl] at f4
  simp only [List.drop, List.take] at f4
  obtain ⟨y4, e4⟩ := hx 4 (by omega)
  rw [e4] at f4
  obtain ⟨x4, h4, _, w4⟩ := DataW.trod_string Try.underlying9 f4
  have f5 : DataW.trod enc Try.prog W 0 spare held n 9 (List.take (Try.prog.cellsOf 9) (List.drop 5 [c0, c1, c2, c3, c4, c5, c6, c7])) = xs[5]? := hf 5 _ rfl
  rw [show Try.prog.cellsOf 9 = 1 by kernel_rfl] at f5
  simp only [List.drop, List.take] at f5
  obtain ⟨y5, e5⟩ := hx 5 (by omega)
  rw [e5] at f5
  obtain ⟨x5, h5, _, w5⟩ := DataW.trod_string Try.underlying9 f5
  have f6 : DataW.trod enc Try.prog W 0 spare held n 3 (List.take (Try.prog.cellsOf 3) (List.drop 6 [c0, c1, c2, c3, c4, c5, c6, c7])) = xs[6]? := hf 6 _ rfl
  rw [show Try.prog.cellsOf 3 = 1 by kernel_rfl] at f6
  simp only [List.drop, List.take] at f6
  obtain ⟨y6, e6⟩ := hx 6 (by omega)
  rw [e6] at f6
  obtain ⟨x6, h6, _, w6⟩ := DataW.trod_int Try.underlying3 f6
  have f7 : DataW.trod enc Try.prog W 0 spare held n 3 (List.take (Try.prog.cellsOf 3) (List.drop 7 [c0, c1, c2, c3, c4, c5, c6, c7])) = xs[7]? := hf 7 _ rfl
  rw [show Try.prog.cellsOf 3 = 1 by kernel_rfl] at f7
  simp only [List.drop, List.take] at f7
  obtain ⟨y7, e7⟩ := hx 7 (by omega)
  rw [e7] at f7
  obtain ⟨x7, h7, _, w7⟩ := DataW.trod_int Try.underlying3 f7
  cases h0
  cases h1
  cases h2
  cases h3
  cases h4
  cases h5
  cases h6
  cases h7
  exact ⟨x0, x1, x2, x3, x4, x5, x6, x7, rfl, w0, i64ok_of w1, i64ok_of w2, i64ok_of w3, w4, w5, i64ok_of w6, i64ok_of w7⟩
end Go.Proofs.Ytacchooggifnhaa
