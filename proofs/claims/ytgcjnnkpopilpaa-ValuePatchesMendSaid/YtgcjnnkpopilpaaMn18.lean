/- How the arguments of a law, read as data, lie in memory: slices of whatever elements, field by field. Values that are read as data. The frame of every law: a call that returns true, and leaves all that was there as it was, meets the row's post. -/
import Derived.Test.YtgcjnnkpopilpaaMn00
import Derived.ChangeArms
import Derived.DataReads
import Derived.SizedLaws
import Derived.Test.YtgcjnnkpopilpaaProg
import Derived.Test.YtgcjnnkpopilpaaRows
import Derived.WalkKit
import Derived.ProofKit
import Derived.OpenShut
import Derived.JoinedCond
import Derived.Deep.CondSized
namespace Go.Proofs.Ytgcjnnkpopilpaa
open Go.RowKit

/-- A list of things, each of which lies in some cells, one behind the other. -/
def Reps {α : Type} (R : α → List Value → Prop) : List α → List Value → Prop
  | [], cs => cs = []
  | x :: xs, cs => ∃ c r, cs = c ++ r ∧ R x c ∧ Reps R xs r

theorem Reps.mono {α : Type} {R R' : α → List Value → Prop} (h : ∀ x c, R x c → R' x c) : ∀ {l : List α} {cs : List Value}, Reps R l cs → Reps R' l cs
  | [], _, hr => hr
  | _ :: _, _, ⟨c, r, e, h1, h2⟩ => ⟨c, r, e, h _ _ h1, Reps.mono h h2⟩
theorem Reps.length {α : Type} {R : α → List Value → Prop} {sz : Nat} (hs : ∀ x c, R x c → c.length = sz) : ∀ {l : List α} {cs : List Value}, Reps R l cs → cs.length = l.length * sz
  | [], _, hr => by cases hr; simp
  | _ :: l, _, ⟨c, r, e, h1, h2⟩ => by
    subst e
    rw [List.length_append, hs _ _ h1, Reps.length hs h2, List.length_cons, Nat.add_mul]
    omega
theorem Reps.get {α : Type} {R : α → List Value → Prop} {sz : Nat} (hs : ∀ x c, R x c → c.length = sz) : ∀ {l : List α} {cs : List Value} {i : Nat} {x : α}, Reps R l cs → l[i]? = some x → ∃ c, R x c ∧ ∀ j u, c[j]? = some u → cs[i * sz + j]? = some u
  | [], _, _, _, _, hx => by simp at hx
  | y :: l, cs, 0, x, h, hx => by
    obtain ⟨c, r, rfl, h1, h2⟩ := h
    obtain rfl : y = x := by simpa using hx
    refine ⟨c, h1, fun j u hu => ?_⟩
    rw [Nat.zero_mul, Nat.zero_add, List.getElem?_append_left (List.getElem?_eq_some_iff.1 hu).1]; exact hu
  | y :: l, cs, i + 1, x, h, hx => by
    obtain ⟨c, r, rfl, h1, h2⟩ := h
    obtain ⟨c', h3, h4⟩ := Reps.get hs h2 (by simpa using hx)
    refine ⟨c', h3, fun j u hu => ?_⟩
    have hl := hs _ _ h1
    have e : (i + 1) * sz + j = c.length + (i * sz + j) := by rw [hl, Nat.add_mul]; omega
    rw [e, List.getElem?_append_right (by omega), ← h4 j u hu]
    congr 1; omega

theorem addr_of_cell {w : World} {a : Addr} {v : Value} (h : w.cell? a = some v) : a = ⟨a.block, a.off, none⟩ := by
  cases a with | mk b o s =>
  cases s with
  | none => rfl
  | some k =>
    exfalso
    unfold World.cell? at h
    simp only at h
    split at h <;> simp at h

theorem add_add_none (b o i j : Nat) : ((⟨b, o, none⟩ : Addr).add i).add j = ⟨b, o + (i + j), none⟩ := by
  rw [add_spot, add_spot, Nat.add_assoc]

/-- The elements of a slice that is read, one after the other, out of a reading of each. -/
theorem elems_reps {α : Type} {R : α → List Value → Prop} {sz : Nat} (hs : ∀ x c, R x c → c.length = sz) (f : Nat → List Value) :
    ∀ (n : Nat), (∀ i, i < n → ∃ x, R x (f i)) → ∃ l : List α, l.length = n ∧ Reps R l ((List.range n).flatMap f) ∧ ∀ i, i < n → ∀ j u, (f i)[j]? = some u → ((List.range n).flatMap f)[i * sz + j]? = some u
  | 0, _ => ⟨[], rfl, rfl, fun i h => by omega⟩
  | n + 1, h => by
    obtain ⟨l, hl, hr, hg⟩ := elems_reps hs f n (fun i hi => h i (by omega))
    obtain ⟨x, hx⟩ := h n (by omega)
    have hlen := Reps.length hs hr
    have happ : ∀ {l : List α} {cs : List Value}, Reps R l cs → Reps R (l ++ [x]) (cs ++ f n) := by
      intro l
      induction l with
      | nil => intro cs hc; cases hc; exact ⟨f n, [], by simp, hx, rfl⟩
      | cons y l ih =>
        rintro cs ⟨c, r, rfl, h1, h2⟩
        exact ⟨c, r ++ f n, by simp, h1, ih h2⟩
    have hfm : (List.range (n + 1)).flatMap f = (List.range n).flatMap f ++ f n := by
      rw [List.range_succ, List.flatMap_append]; simp
    refine ⟨l ++ [x], by simp [hl], by rw [hfm]; exact happ hr, fun i hi j u hu => ?_⟩
    rw [hfm]
    by_cases hin : i < n
    · have := hg i hin j u hu
      rw [List.getElem?_append_left (List.getElem?_eq_some_iff.1 this).1]; exact this
    · have : i = n := by omega
      subst this
      rw [hl] at hlen
      rw [List.getElem?_append_right (by omega), ← hu]
      congr 1; omega

/-- A slice that is read as data, out of how its elements are read. -/
theorem read_slice {H : Type} {enc : TypeId × Value → H} {P : Program} {W : World} {spare : Nat → Bool} {held : Bool} {α : Type} {R : α → List Value → Prop} {sz : Nat} (hs : ∀ x c, R x c → c.length = sz)
    {t e : TypeId} {fuel : Nat} {cs : List Value} {x : DataW H × List MemPlace} (ht : P.underlying t = some (.slice e)) (hC : P.cellsOf e = sz) (hsz : 0 < sz)
    (hel : ∀ n cs' y, n < fuel → DataW.trod enc P W 0 spare held n e cs' = some y → ∃ a, R a cs')
    (h : DataW.trod enc P W 0 spare held fuel t cs = some x) : ∃ (a : Option Addr) (l : List α) (cap : Nat) (cells : List Value), cs = [.slice a l.length cap] ∧ Sl W (.slice a l.length cap) l.length cells ∧ Reps R l cells := by
  rcases DataW.trod_slice ht h with ⟨rfl, _⟩ | ⟨a, len, cap, elems, rest, n, hn, rfl, hx, hb, hl, hm, hlen, hel', _⟩
  · exact ⟨none, [], 0, [], rfl, Sl.nil W, rfl⟩
  · rw [hC] at hel'
    have hget : ∀ i, i < len → ∃ c, (∀ j u, c[j]? = some u → W.cell? ((a.add (i * sz)).add j) = some u) ∧ ∃ y, R y c := by
      intro i hi
      have h1 := hel' i hi
      have hi' : i < elems.length := by omega
      rw [List.getElem?_eq_getElem hi'] at h1
      obtain ⟨c, hc, htr⟩ := Option.bind_eq_some_iff.1 h1
      obtain ⟨_, hcl, hat⟩ := World.cells?_some hc
      refine ⟨c, fun j u hu => ?_, hel n c _ (by omega) htr⟩
      rw [hat j (by have := (List.getElem?_eq_some_iff.1 hu).1; omega)]; exact hu
    have hget' : ∀ i, ∃ c, i < len → (∀ j u, c[j]? = some u → W.cell? ((a.add (i * sz)).add j) = some u) ∧ ∃ y, R y c := by
      intro i
      by_cases hi : i < len
      · obtain ⟨c, hc⟩ := hget i hi; exact ⟨c, fun _ => hc⟩
      · exact ⟨[], fun h => (hi h).elim⟩
    obtain ⟨f, hf⟩ := Classical.axiomOfChoice hget'
    obtain ⟨l, hll, hr, hg⟩ := elems_reps hs f len (fun i hi => (hf i hi).2)
    refine ⟨some a, l, cap, _, by rw [hll], ⟨_, _, rfl, by omega, hm, (fun h => by cases h), fun i u hu => ?_⟩, hr⟩
    have hrl := Reps.length hs hr
    have hi : i < len * sz := by have := (List.getElem?_eq_some_iff.1 hu).1; rw [hll] at hrl; omega
    have hid : i / sz < len := Nat.div_lt_of_lt_mul (by rw [Nat.mul_comm]; exact hi)
    obtain ⟨y, hy⟩ := (hf _ hid).2
    have hfl := hs _ _ hy
    have hj : i % sz < (f (i / sz)).length := by rw [hfl]; exact Nat.mod_lt _ hsz
    have h2 := hg _ hid _ _ (List.getElem?_eq_getElem hj)
    rw [Nat.div_add_mod' i sz, hu] at h2
    have hcell := (hf _ hid).1 _ _ (List.getElem?_eq_getElem hj)
    have h0 : 0 < len := Nat.lt_of_le_of_lt (Nat.zero_le _) hid
    obtain ⟨y0, hy0⟩ := (hf 0 h0).2
    have hj0 : 0 < (f 0).length := by rw [hs _ _ hy0]; exact hsz
    have hc0 := (hf 0 h0).1 _ _ (List.getElem?_eq_getElem hj0)
    rw [Nat.zero_mul] at hc0
    have ha : a = ⟨a.block, a.off, none⟩ := by
      have e : (a.add 0).add 0 = a := by simp [Addr.add]
      rw [e] at hc0
      exact addr_of_cell hc0
    refine ⟨a.block, a.off, by rw [← ha], ?_⟩
    rw [ha, add_add_none, Nat.div_add_mod' i sz] at hcell
    rw [hcell, Option.some.inj h2]

/-- A value of more cells than one is an aggregate of them. -/
theorem agg_of_cells {v : Value} (h : v.cells.toList.length ≠ 1) : v = .agg v.cells.toList.toArray := by
  cases v <;> simp_all [Value.cells]
theorem i64ok_of {n : Int} (h : (Lit.int .i64 n).wf = true) : i64ok n := by
  simpa [Lit.wf, IntKind.min, IntKind.max, IntKind.signed, IntKind.bits, i64ok] using h
end Go.Proofs.Ytgcjnnkpopilpaa
namespace Go.Proofs.Ytgcjnnkpopilpaa
open Go.RowKit
theorem cells_api_Value : Try.prog.cellsOf 25 = 5 := by kernel_rfl
theorem cells_api_Field : Try.prog.cellsOf 38 = 6 := by kernel_rfl
theorem cells_int : Try.prog.cellsOf 3 = 1 := by kernel_rfl
theorem cells_string : Try.prog.cellsOf 9 = 1 := by kernel_rfl
theorem cells_api_Values : Try.prog.cellsOf 22 = 1 := by kernel_rfl
theorem cells_api_Fields : Try.prog.cellsOf 23 = 1 := by kernel_rfl

theorem repL_of {W : World} : ∀ {l : List V} {cs : List Value}, Reps (RepV W) l cs → RepL W l cs
  | [], _, h => by simp only [RepL]; exact h
  | _ :: _, _, ⟨c, r, e, h1, h2⟩ => by simp only [RepL]; exact ⟨c, r, e, h1, repL_of h2⟩
theorem repFs_of {W : World} : ∀ {l : List F} {cs : List Value}, Reps (RepF W) l cs → RepFs W l cs
  | [], _, h => by simp only [RepFs]; exact h
  | _ :: _, _, ⟨c, r, e, h1, h2⟩ => by simp only [RepFs]; exact ⟨c, r, e, h1, repFs_of h2⟩

theorem len5 {l : List Value} (h : l.length = 5) : ∃ a b c d e, l = [a, b, c, d, e] := by
  match l, h with
  | [a, b, c, d, e], _ => exact ⟨a, b, c, d, e, rfl⟩
theorem len6 {l : List Value} (h : l.length = 6) : ∃ a r, l = a :: r ∧ r.length = 5 := by
  match l, h with
  | a :: r, h => exact ⟨a, r, rfl, by simpa using h⟩

section
variable {H : Type} {enc : TypeId × Value → H} {W : World} {spare : Nat → Bool} {held : Bool}
theorem read_V : ∀ (fuel : Nat) (cs : List Value) (x : DataW H × List MemPlace), DataW.trod enc Try.prog W 0 spare held fuel 25 cs = some x → ∃ v, RepV W v cs := by
  intro fuel
  induction fuel using Nat.strongRecOn with
  | _ fuel ih =>
  intro cs x h
  obtain ⟨xs, n, rfl, _, hlen, _, hf⟩ := DataW.trod_struct Try.underlying25 h
  rw [cells_api_Value] at hlen
  obtain ⟨c0, c1, c2, c3, c4, rfl⟩ := len5 hlen
  have f0 : DataW.trod enc Try.prog W 0 spare held n 3 (List.take (Try.prog.cellsOf 3) (List.drop 0 [c0, c1, c2, c3, c4])) = xs[0]? := hf 0 _ rfl
  rw [cells_int] at f0
  have f1 : DataW.trod enc Try.prog W 0 spare held n 3 (List.take (Try.prog.cellsOf 3) (List.drop 1 [c0, c1, c2, c3, c4])) = xs[1]? := hf 1 _ rfl
  rw [cells_int] at f1
  have f2 : DataW.trod enc Try.prog W 0 spare held n 9 (List.take (Try.prog.cellsOf 9) (List.drop 2 [c0, c1, c2, c3, c4])) = xs[2]? := hf 2 _ rfl
  rw [cells_string] at f2
  have f3 : DataW.trod enc Try.prog W 0 spare held n 22 (List.take (Try.prog.cellsOf 22) (List.drop 3 [c0, c1, c2, c3, c4])) = xs[3]? := hf 3 _ rfl
  rw [cells_api_Values] at f3
  have f4 : DataW.trod enc Try.prog W 0 spare held n 23 (List.take (Try.prog.cellsOf 23) (List.drop 4 [c0, c1, c2, c3, c4])) = xs[4]? := hf 4 _ rfl
  rw [cells_api_Fields] at f4
  simp only [List.drop, List.take] at f0 f1 f2 f3 f4
  have hx : ∀ i, i < 5 → ∃ y, xs[i]? = some y := fun i hi => ⟨_, List.getElem?_eq_getElem (by simp_all)⟩
  obtain ⟨y0, e0⟩ := hx 0 (by omega)
  obtain ⟨y1, e1⟩ := hx 1 (by omega)
  obtain ⟨y2, e2⟩ := hx 2 (by omega)
  obtain ⟨y3, e3⟩ := hx 3 (by omega)
  obtain ⟨y4, e4⟩ := hx 4 (by omega)
  rw [e0] at f0
  rw [e1] at f1
  rw [e2] at f2
  rw [e3] at f3
  rw [e4] at f4
  obtain ⟨k, h0, _, w0⟩ := DataW.trod_int Try.underlying3 f0
  obtain ⟨m, h1, _, w1⟩ := DataW.trod_int Try.underlying3 f1
  obtain ⟨s, h2, _, w2⟩ := DataW.trod_string Try.underlying9 f2
  obtain ⟨a3, is, q3, ics, h3, s3, r3⟩ := read_slice (R := RepV W) (fun _ _ => RepV.len) Try.underlying22 cells_api_Value (by omega) (fun j cs' y hj ht => ih j (by omega) cs' y ht) f3
  obtain ⟨a4, fs, q4, fcs, h4, s4, r4⟩ := read_slice (R := RepF W) (fun _ _ => RepF.len) Try.underlying23 cells_api_Field (by omega) (fun j cs' y hj ht => by
    obtain ⟨xs', n', rfl, _, hlen', _, hf'⟩ := DataW.trod_struct Try.underlying38 ht
    rw [cells_api_Field] at hlen'
    obtain ⟨d0, r, rfl, hr⟩ := len6 hlen'
    have g0 : DataW.trod enc Try.prog W 0 spare held n' 9 (List.take (Try.prog.cellsOf 9) (List.drop 0 (d0 :: r))) = xs'[0]? := hf' 0 _ rfl
    have g1 : DataW.trod enc Try.prog W 0 spare held n' 25 (List.take (Try.prog.cellsOf 25) (List.drop 1 (d0 :: r))) = xs'[1]? := hf' 1 _ rfl
    rw [cells_string] at g0
    rw [cells_api_Value] at g1
    simp only [List.drop, List.take] at g0
    rw [List.drop_succ_cons, List.drop_zero] at g1
    have hx' : ∀ i, i < 2 → ∃ y, xs'[i]? = some y := fun i hi => ⟨_, List.getElem?_eq_getElem (by simp_all)⟩
    obtain ⟨z0, k0⟩ := hx' 0 (by omega)
    obtain ⟨z1, k1⟩ := hx' 1 (by omega)
    rw [k0] at g0
    rw [k1, List.take_of_length_le (by omega)] at g1
    obtain ⟨nm, l0, _, wn⟩ := DataW.trod_string Try.underlying9 g0
    obtain ⟨v, hv⟩ := ih n' (by omega) r _ g1
    cases l0
    exact ⟨.mk nm v, by simp only [RepF]; exact ⟨r, rfl, wn, hv⟩⟩) f4
  cases h0
  cases h1
  cases h2
  cases h3
  cases h4
  exact ⟨.mk k m s is fs, by simp only [RepV]; exact ⟨_, _, ics, fcs, rfl, i64ok_of w0, i64ok_of w1, w2, s3, repL_of r3, s4, repFs_of r4⟩⟩
end
end Go.Proofs.Ytgcjnnkpopilpaa
namespace Go.Proofs.Ytgcjnnkpopilpaa
open Go.ChangeShapes Go.WideShapes Go.ChangeAt Go.RowKit

theorem own : ownKnob Try.prog.godebug = none := by kernel_rfl
theorem laidOut : laidOutB Try.prog = true := by kernel_rfl

theorem trodAll_below {H : Type} {enc : TypeId × Value → H} {P : Program} (hl : laidOutB P = true) {W W' : World} (hb : Below W.heap.size W W') :
    ∀ (ts : List TypeId) (vs : List Value) (ds : List (DataW H)) (ps : List MemPlace), (∀ t ∈ ts, P.readableRec t = true ∧ t < P.types.size) →
      DataW.TrodAll enc P W 0 (fun _ => true) true ts vs ds ps → (∀ x ∈ ps, x.block < W.heap.size) →
      DataW.TrodAll enc P W' 0 (fun b => decide (b < W.heap.size)) true ts vs ds ps
  | [], [], [], ps, _, h, _ => h
  | t :: ts, v :: vs, d :: ds, ps, hr, h, hlt => by
    obtain ⟨p, q, h1, h2, rfl⟩ := h
    refine ⟨p, q, Below.trod hl (hr t (by simp)).1 (hr t (by simp)).2 h1 hb (fun x hx => hlt x (by simp [hx])), ?_, rfl⟩
    exact trodAll_below hl hb ts vs ds q (fun t ht => hr t (by simp [ht])) h2 (fun x hx => hlt x (by simp [hx]))
  | [], [], _ :: _, _, _, h, _ => h.elim
  | [], _ :: _, [], _, _, h, _ => h.elim
  | [], _ :: _, _ :: _, _, _, h, _ => h.elim
  | _ :: _, [], [], _, _, h, _ => h.elim
  | _ :: _, [], _ :: _, _, _, h, _ => h.elim
  | _ :: _, _ :: _, [], _, _, h, _ => h.elim

theorem law_post {H : Type} {enc : TypeId × Value → H} {P : Program} (hl : laidOutB P = true) {f : Func} {s : ChangeSpec} (hv : s.vars = []) {W W' : World} {args : Array Value} {ds gs : List (DataW H)} {before : List MemPlace}
    (hW : DataW.Whole enc P f.params.toList s.vars false W args.toList ds gs before) (hb : Below W.heap.size W W')
    (hr0 : (f.params.toList.all fun t => P.readableRec t && decide (t < P.types.size)) = true) {tb : TypeId} (hres : f.resultTypes = #[tb]) (hub : P.underlying tb = some .bool)
    (hfn : s.fn H (ds ++ gs) = { results := [.lit (.bool true)], args := ds }) : s.post enc P f false true false false W args (.bool true) W' := by
  have hlt := hW.lt
  have hr : ∀ t ∈ f.params.toList, P.readableRec t = true ∧ t < P.types.size := fun t ht => by simpa using List.all_eq_true.1 hr0 t ht
  have hW' := hW
  obtain ⟨p, q, hA, hV, rfl, _, _⟩ := hW
  rw [hv] at hV
  obtain ⟨rfl, rfl⟩ := trodVars_none hV
  refine ⟨ds, [], _, [], p, [], hW', ?_, ?_, ?_, hb.frame _, fun h => by cases h⟩
  · rw [hfn, hres]
    exact trodAll_cons_mk (shut_bool hub true) trodAll_mk0
  · rw [hfn]
    exact trodAll_below hl hb _ _ _ _ hr hA (fun x hx => hlt x (by simp [hx]))
  · rw [hfn, hv]
    rfl
end Go.Proofs.Ytgcjnnkpopilpaa
