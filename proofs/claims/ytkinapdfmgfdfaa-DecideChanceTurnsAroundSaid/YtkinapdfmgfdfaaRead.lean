/- How the arguments of a law, read as data, lie in memory: slices of whatever elements, field by field. -/
import Derived.Test.YtkinapdfmgfdfaaMem
import Derived.ChangeArms
import Derived.DataReads
import Derived.SizedLaws
namespace Go.Proofs.Ytkinapdfmgfdfaa
open Go.RowKit

/-- A list of things, each of which lies in some cells, one behind the other. -/
def Reps {α : Type} (R : α → List Value → Prop) : List α → List Value → Prop
  | [], cs => cs = []
  | x :: xs, cs => ∃ c r, cs = c ++ r ∧ R x c ∧ Reps R xs r

theorem Reps.mono {α : Type} {R R' : α → List Value → Prop} (h : ∀ x c, R x c → R' x c) : ∀ {l : List α} {cs : List Value}, Reps R l cs → Reps R' l cs
  | [], _, hr => hr
  | _ :: _, _, ⟨c, r, e, h1, h2⟩ => ⟨c, r, e, h _ _ h1, Reps.mono h h2⟩
theorem Reps.length {α : Type} {R : α → List Value → Prop} {sz : Nat} (hs : ∀ x c, R x c → c.length = sz) : ∀ {l : List α} {cs : List Value}, Reps R l cs → cs.length = l.length * sz
  | [], _, hr => by cases hr; simp
  | _ :: l, _, ⟨c, r, e, h1, h2⟩ => by
    subst e
    rw [List.length_append, hs _ _ h1, Reps.length hs h2, List.length_cons, Nat.add_mul]
    omega
theorem Reps.get {α : Type} {R : α → List Value → Prop} {sz : Nat} (hs : ∀ x c, R x c → c.length = sz) : ∀ {l : List α} {cs : List Value} {i : Nat} {x : α}, Reps R l cs → l[i]? = some x → ∃ c, R x c ∧ ∀ j u, c[j]? = some u → cs[i * sz + j]? = some u
  | [], _, _, _, _, hx => by simp at hx
  | y :: l, cs, 0, x, h, hx => by
    obtain ⟨c, r, rfl, h1, h2⟩ := h
    obtain rfl : y = x := by simpa using hx
    refine ⟨c, h1, fun j u hu => ?_⟩
    rw [Nat.zero_mul, Nat.zero_add, List.getElem?_append_left (List.getElem?_eq_some_iff.1 hu).1]; exact hu
  | y :: l, cs, i + 1, x, h, hx => by
    obtain ⟨c, r, rfl, h1, h2⟩ := h
    obtain ⟨c', h3, h4⟩ := Reps.get hs h2 (by simpa using hx)
    refine ⟨c', h3, fun j u hu => ?_⟩
    have hl := hs _ _ h1
    have e : (i + 1) * sz + j = c.length + (i * sz + j) := by rw [hl, Nat.add_mul]; omega
    rw [e, List.getElem?_append_right (by omega), ← h4 j u hu]
    congr 1; omega

theorem addr_of_cell {w : World} {a : Addr} {v : Value} (h : w.cell? a = some v) : a = ⟨a.block, a.off, none⟩ := by
  cases a with | mk b o s =>
  cases s with
  | none => rfl
  | some k =>
    exfalso
    unfold World.cell? at h
    simp only at h
    split at h <;> simp at h

theorem add_add_none (b o i j : Nat) : ((⟨b, o, none⟩ : Addr).add i).add j = ⟨b, o + (i + j), none⟩ := by
  rw [add_spot, add_spot, Nat.add_assoc]

/-- The elements of a slice that is read, one after the other, out of a reading of each. -/
theorem elems_reps {α : Type} {R : α → List Value → Prop} {sz : Nat} (hs : ∀ x c, R x c → c.length = sz) (f : Nat → List Value) :
    ∀ (n : Nat), (∀ i, i < n → ∃ x, R x (f i)) → ∃ l : List α, l.length = n ∧ Reps R l ((List.range n).flatMap f) ∧ ∀ i, i < n → ∀ j u, (f i)[j]? = some u → ((List.range n).flatMap f)[i * sz + j]? = some u
  | 0, _ => ⟨[], rfl, rfl, fun i h => by omega⟩
  | n + 1, h => by
    obtain ⟨l, hl, hr, hg⟩ := elems_reps hs f n (fun i hi => h i (by omega))
    obtain ⟨x, hx⟩ := h n (by omega)
    have hlen := Reps.length hs hr
    have happ : ∀ {l : List α} {cs : List Value}, Reps R l cs → Reps R (l ++ [x]) (cs ++ f n) := by
      intro l
      induction l with
      | nil => intro cs hc; cases hc; exact ⟨f n, [], by simp, hx, rfl⟩
      | cons y l ih =>
        rintro cs ⟨c, r, rfl, h1, h2⟩
        exact ⟨c, r ++ f n, by simp, h1, ih h2⟩
    have hfm : (List.range (n + 1)).flatMap f = (List.range n).flatMap f ++ f n := by
      rw [List.range_succ, List.flatMap_append]; simp
    refine ⟨l ++ [x], by simp [hl], by rw [hfm]; exact happ hr, fun i hi j u hu => ?_⟩
    rw [hfm]
    by_cases hin : i < n
    · have := hg i hin j u hu
      rw [List.getElem?_append_left (List.getElem?_eq_some_iff.1 this).1]; exact this
    · have : i = n := by omega
      subst this
      rw [hl] at hlen
      rw [List.getElem?_append_right (by omega), ← hu]
      congr 1; omega

/-- A slice that is read as data, out of how its elements are read. -/
theorem read_slice {H : Type} {enc : TypeId × Value → H} {P : Program} {W : World} {spare : Nat → Bool} {held : Bool} {α : Type} {R : α → List Value → Prop} {sz : Nat} (hs : ∀ x c, R x c → c.length = sz)
    {t e : TypeId} {fuel : Nat} {cs : List Value} {x : DataW H × List MemPlace} (ht : P.underlying t = some (.slice e)) (hC : P.cellsOf e = sz) (hsz : 0 < sz)
    (hel : ∀ n cs' y, n < fuel → DataW.trod enc P W 0 spare held n e cs' = some y → ∃ a, R a cs')
    (h : DataW.trod enc P W 0 spare held fuel t cs = some x) : ∃ (a : Option Addr) (l : List α) (cap : Nat) (cells : List Value), cs = [.slice a l.length cap] ∧ Sl W (.slice a l.length cap) l.length cells ∧ Reps R l cells := by
  rcases DataW.trod_slice ht h with ⟨rfl, _⟩ | ⟨a, len, cap, elems, rest, n, hn, rfl, hx, hb, hl, hm, hlen, hel', _⟩
  · exact ⟨none, [], 0, [], rfl, Sl.nil W, rfl⟩
  · rw [hC] at hel'
    have hget : ∀ i, i < len → ∃ c, (∀ j u, c[j]? = some u → W.cell? ((a.add (i * sz)).add j) = some u) ∧ ∃ y, R y c := by
      intro i hi
      have h1 := hel' i hi
      have hi' : i < elems.length := by omega
      rw [List.getElem?_eq_getElem hi'] at h1
      obtain ⟨c, hc, htr⟩ := Option.bind_eq_some_iff.1 h1
      obtain ⟨_, hcl, hat⟩ := World.cells?_some hc
      refine ⟨c, fun j u hu => ?_, hel n c _ (by omega) htr⟩
      rw [hat j (by have := (List.getElem?_eq_some_iff.1 hu).1; omega)]; exact hu
    have hget' : ∀ i, ∃ c, i < len → (∀ j u, c[j]? = some u → W.cell? ((a.add (i * sz)).add j) = some u) ∧ ∃ y, R y c := by
      intro i
      by_cases hi : i < len
      · obtain ⟨c, hc⟩ := hget i hi; exact ⟨c, fun _ => hc⟩
      · exact ⟨[], fun h => (hi h).elim⟩
    obtain ⟨f, hf⟩ := Classical.axiomOfChoice hget'
    obtain ⟨l, hll, hr, hg⟩ := elems_reps hs f len (fun i hi => (hf i hi).2)
    refine ⟨some a, l, cap, _, by rw [hll], ⟨_, _, rfl, by omega, hm, (fun h => by cases h), fun i u hu => ?_⟩, hr⟩
    have hrl := Reps.length hs hr
    have hi : i < len * sz := by have := (List.getElem?_eq_some_iff.1 hu).1; rw [hll] at hrl; omega
    have hid : i / sz < len := Nat.div_lt_of_lt_mul (by rw [Nat.mul_comm]; exact hi)
    obtain ⟨y, hy⟩ := (hf _ hid).2
    have hfl := hs _ _ hy
    have hj : i % sz < (f (i / sz)).length := by rw [hfl]; exact Nat.mod_lt _ hsz
    have h2 := hg _ hid _ _ (List.getElem?_eq_getElem hj)
    rw [Nat.div_add_mod' i sz, hu] at h2
    have hcell := (hf _ hid).1 _ _ (List.getElem?_eq_getElem hj)
    have h0 : 0 < len := Nat.lt_of_le_of_lt (Nat.zero_le _) hid
    obtain ⟨y0, hy0⟩ := (hf 0 h0).2
    have hj0 : 0 < (f 0).length := by rw [hs _ _ hy0]; exact hsz
    have hc0 := (hf 0 h0).1 _ _ (List.getElem?_eq_getElem hj0)
    rw [Nat.zero_mul] at hc0
    have ha : a = ⟨a.block, a.off, none⟩ := by
      have e : (a.add 0).add 0 = a := by simp [Addr.add]
      rw [e] at hc0
      exact addr_of_cell hc0
    refine ⟨a.block, a.off, by rw [← ha], ?_⟩
    rw [ha, add_add_none, Nat.div_add_mod' i sz] at hcell
    rw [hcell, Option.some.inj h2]

/-- How long a slice that is read can be. -/
theorem slice_sized {H : Type} {enc : TypeId × Value → H} {P : Program} {W : World} {spare : Nat → Bool} {held : Bool} {ts : List TypeId} {ds : List (DataW H)} (hsz : (DataW.weightsEach P ts ds).all (· ≤ reachBytes) = true) {j : Nat}
    {t e : TypeId} {fuel : Nat} {cs : List Value} {x : DataW H × List MemPlace} (ht : P.underlying t = some (.slice e)) (hj : ts[j]? = some t) (hd : ds[j]? = some x.1) (h : DataW.trod enc P W 0 spare held fuel t cs = some x) {a : Option Addr} {n cap : Nat} (hcs : cs = [.slice a n cap]) : n * P.bytesOf e ≤ reachBytes := by
  rcases DataW.trod_slice ht h with ⟨rfl, _⟩ | ⟨a', len, cap', elems, rest, m, hn, rfl, hx, hb, hl, hm, hlen, hel', _⟩
  · cases hcs; simp
  · cases hcs
    rw [hx] at hd
    have := sized_slice hsz hj hd ht
    simp only [List.length_map, hlen] at this
    exact Nat.le_trans (Nat.mul_le_mul_right _ (Nat.le_add_right _ _)) this
/-- A value of more cells than one is an aggregate of them. -/
theorem agg_of_cells {v : Value} (h : v.cells.toList.length ≠ 1) : v = .agg v.cells.toList.toArray := by
  cases v <;> simp_all [Value.cells]
theorem i64ok_of {n : Int} (h : (Lit.int .i64 n).wf = true) : i64ok n := by
  simpa [Lit.wf, IntKind.min, IntKind.max, IntKind.signed, IntKind.bits, i64ok] using h
theorem uncons {l : List Value} {n : Nat} (h : l.length = n + 1) : ∃ c r, l = c :: r ∧ r.length = n := by
  cases l with
  | nil => cases h
  | cons c r => exact ⟨c, r, rfl, by simpa using h⟩
end Go.Proofs.Ytkinapdfmgfdfaa
