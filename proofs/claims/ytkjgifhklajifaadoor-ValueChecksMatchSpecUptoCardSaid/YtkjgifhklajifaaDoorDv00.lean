/- The frame of every law: a call that returns true, and leaves all that was there as it was, meets the row's post. Words for slices that are read and small facts on worlds, for all walks of this seat: no program stands in it. How the arguments of a law, read as data, lie in memory: slices of whatever elements, field by field. Comparisons of Go's library: cmp.Compare at ints and strings, strings.Compare, cmp.Or at two ints. Values: how they lie in memory, and their order. -/
import Derived.Test.YtkjgifhklajifaaDoorRows
import Derived.WalkKit
import Derived.ProofKit
import Derived.SizedLaws
import Derived.OpenShut
import Derived.JoinedCond
import Derived.Deep.CondSized
import Derived.WalkSpells
import Derived.WalkLawsBesides
import Derived.Handy
import Derived.Lib.Hide
import Derived.Lib.ConvBytes
import Derived.Deep.DeepAppendRoom
import Derived.Laws.AppendOwnNone
import Derived.ChangeArms
import Derived.DataReads
import Derived.Test.YtkjgifhklajifaaDoorProg
import Derived.Lib.Bytealg
namespace Go.Proofs.YtkjgifhklajifaaDoor
open Go.ChangeShapes Go.WideShapes Go.ChangeAt Go.RowKit

theorem own : ownKnob Tryd.prog.godebug = none := by kernel_rfl
theorem laidOut : laidOutB Tryd.prog = true := by kernel_rfl

theorem trodAll_below {H : Type} {enc : TypeId × Value → H} {P : Program} (hl : laidOutB P = true) {W W' : World} (hb : Below W.heap.size W W') :
    ∀ (ts : List TypeId) (vs : List Value) (ds : List (DataW H)) (ps : List MemPlace), (∀ t ∈ ts, P.readableRec t = true ∧ t < P.types.size) →
      DataW.TrodAll enc P W 0 (fun _ => true) true ts vs ds ps → (∀ x ∈ ps, x.block < W.heap.size) →
      DataW.TrodAll enc P W' 0 (fun b => decide (b < W.heap.size)) true ts vs ds ps
  | [], [], [], ps, _, h, _ => h
  | t :: ts, v :: vs, d :: ds, ps, hr, h, hlt => by
    obtain ⟨p, q, h1, h2, rfl⟩ := h
    refine ⟨p, q, Below.trod hl (hr t (by simp)).1 (hr t (by simp)).2 h1 hb (fun x hx => hlt x (by simp [hx])), ?_, rfl⟩
    exact trodAll_below hl hb ts vs ds q (fun t ht => hr t (by simp [ht])) h2 (fun x hx => hlt x (by simp [hx]))
  | [], [], _ :: _, _, _, h, _ => h.elim
  | [], _ :: _, [], _, _, h, _ => h.elim
  | [], _ :: _, _ :: _, _, _, h, _ => h.elim
  | _ :: _, [], [], _, _, h, _ => h.elim
  | _ :: _, [], _ :: _, _, _, h, _ => h.elim
  | _ :: _, _ :: _, [], _, _, h, _ => h.elim

theorem law_post {H : Type} {enc : TypeId × Value → H} {P : Program} (hl : laidOutB P = true) {f : Func} {s : ChangeSpec} (hv : s.vars = []) {W W' : World} {args : Array Value} {ds gs : List (DataW H)} {before : List MemPlace}
    (hW : DataW.Whole enc P f.params.toList s.vars false W args.toList ds gs before) (hb : Below W.heap.size W W')
    (hr0 : (f.params.toList.all fun t => P.readableRec t && decide (t < P.types.size)) = true) {tb : TypeId} (hres : f.resultTypes = #[tb]) (hub : P.underlying tb = some .bool)
    (hfn : s.fn H (ds ++ gs) = { results := [.lit (.bool true)], args := ds }) : s.post enc P f false true false false W args (.bool true) W' := by
  have hlt := hW.lt
  have hr : ∀ t ∈ f.params.toList, P.readableRec t = true ∧ t < P.types.size := fun t ht => by simpa using List.all_eq_true.1 hr0 t ht
  have hW' := hW
  obtain ⟨p, q, hA, hV, rfl, _, _⟩ := hW
  rw [hv] at hV
  obtain ⟨rfl, rfl⟩ := trodVars_none hV
  refine ⟨ds, [], _, [], p, [], hW', ?_, ?_, ?_, hb.frame _, fun h => by cases h⟩
  · rw [hfn, hres]
    exact trodAll_cons_mk (shut_bool hub true) trodAll_mk0
  · rw [hfn]
    exact trodAll_below hl hb _ _ _ _ hr hA (fun x hx => hlt x (by simp [hx]))
  · rw [hfn, hv]
    rfl
end Go.Proofs.YtkjgifhklajifaaDoor
namespace Go.Proofs.YtkjgifhklajifaaDoor
open Go.RowKit

/-- The slice value v has n elements, and reads as the cells cs. -/
def Sl (w : World) (v : Value) (n : Nat) (cs : List Value) : Prop :=
  ∃ (a : Option Addr) (cap : Nat), v = .slice a n cap ∧ n ≤ cap ∧ cap ≤ maxLen ∧ (a = none → cap = 0) ∧ ∀ i x, cs[i]? = some x → ∃ b o, a = some ⟨b, o, none⟩ ∧ w.cell? ⟨b, o + i, none⟩ = some x

theorem Sl.ext {w w' : World} {v : Value} {n : Nat} {cs : List Value} (h : Sl w v n cs) (hb : Below w.heap.size w w') : Sl w' v n cs := by
  obtain ⟨a, cap, hv, h1, h2, h0, h3⟩ := h
  refine ⟨a, cap, hv, h1, h2, h0, fun i x hx => ?_⟩
  obtain ⟨b, o, ha, hc⟩ := h3 i x hx
  exact ⟨b, o, ha, (hb.cell (p := ⟨b, o + i, none⟩) (World.block_lt_of_cell? w _ hc)).trans hc⟩

theorem Sl.drew {w : World} {v : Value} {n : Nat} {cs : List Value} (h : Sl w v n cs) : Sl w.drew v n cs := h

theorem Sl.nil (w : World) : Sl w (.slice none 0 0) 0 [] := ⟨none, 0, rfl, Nat.le_refl _, Nat.zero_le _, fun _ => rfl, fun i x h => by simp at h⟩

theorem ext_trans {a b c : World} (h : Below a.heap.size a b) (k : Below b.heap.size b c) : Below a.heap.size a c :=
  h.trans (k.mono h.size)

/-- What the call owns reads as its cells. -/
theorem Sl.ofOwn {w : World} {base e size n : Nat} {v : Value} {xs : List Value} (h : w.ownsRow base e size v n xs) : Sl w v n xs := by
  obtain ⟨h1, h2⟩ := h
  rcases h2 with ⟨rfl, rfl⟩ | ⟨g, cap, cur, rfl, hb, hg, hn, hm, hs, ht⟩
  · have : xs = [] := List.length_eq_zero_iff.1 (by omega)
    subst this; exact Sl.nil w
  · refine ⟨some ⟨g, 0, none⟩, cap, rfl, hn, hm, (fun h => by cases h), fun i x hx => ⟨g, 0, rfl, ?_⟩⟩
    rw [← ht] at hx
    have hi : i < (cur.toList.take (n * size)).length := (List.getElem?_eq_some_iff.1 hx).1
    simp only [List.length_take] at hi
    rw [List.getElem?_take_of_lt (by omega)] at hx
    simp only [World.cell?, hg, Nat.zero_add]
    simpa using hx

theorem add_spot (b o j : Nat) : (⟨b, o, none⟩ : Addr).add j = ⟨b, o + j, none⟩ := by
  unfold Addr.add; split
  · next h => subst h; rfl
  · rfl

/-- The source of an append, out of what it reads as. -/
theorem Sl.src {w : World} {x : Value} {m : Nat} {news : List Value} (h : Sl w x m news) :
    (x = .slice none 0 0 ∧ m = 0 ∧ news = []) ∨ ∃ ad c, x = .slice (some ad) m c ∧ ∀ j u, news[j]? = some u → w.cell? (ad.add j) = some u := by
  obtain ⟨a, cap, rfl, h1, h2, h0, h3⟩ := h
  cases a with
  | none =>
    left
    have := h0 rfl
    subst this
    refine ⟨by congr; omega, by omega, ?_⟩
    cases news with
    | nil => rfl
    | cons y l => obtain ⟨_, _, h, _⟩ := h3 0 y rfl; cases h
  | some ad =>
    right
    refine ⟨ad, cap, rfl, fun j u hu => ?_⟩
    obtain ⟨b, o, hb, hc⟩ := h3 j u hu
    cases hb
    rw [add_spot]; exact hc

/-- append onto a row of the call's own, grown where there is no room. -/
theorem wpList_append_sl {P : Program} {w : World} {ops : Array Oper} {rest : List Oper} {o : Oper} {a : Act} {Q : Exit → Act → World → Prop} (hgd : o.guard = none) (s x : Operand) (t : TypeId)
    (ho : o.op = .call { callee := .builtin .append, args := #[s, x], argTypes := #[t, t] })
    (base : Nat) (e : TypeId) {z : Value} {size bytes : Nat} (ht : P.underlying t = some (.slice e)) (hinfo : (P.info? e).map (fun i => (i.zero, i.size, i.bytes)) = some (some z, size, bytes))
    (hzs : z.cells.size = size) (hsz : 0 < size)
    {v : Value} {n : Nat} {xs : List Value} (hs : a.eval s = v) (hown : w.ownsRow base e size v n xs)
    {xv : Value} {m : Nat} {news : List Value} (hx : a.eval x = xv) (hsl : Sl w xv m news) (hl : news.length = m * size) (h1 : ∀ u ∈ news, u.oneCell' = true)
    (h63 : n + m ≤ maxLen) (hbytes : (n + m) * bytes ≤ 140737488355328) (hbase : base ≤ w.heap.size)
    (h : ∀ v' w', w'.ownsRow base e size v' (n + m) (xs ++ news) → w.grownBy w' v.ownBlock → (v' = .slice none 0 0 ↔ v = .slice none 0 0 ∧ m = 0) → wpList P ops Q rest (a.put o.dst v') w') : wpList P ops Q (o :: rest) a w := by
  obtain ⟨i, hi, hz0, hz1, hz2⟩ := info_parts hinfo
  rcases hsl.src with ⟨rfl, rfl, rfl⟩ | ⟨ad, c, rfl, hnews⟩
  · refine wpList_append_own_none hgd s x t ho base e i size ht hi _ n xs hs hown hx ?_
    exact h v w (by simpa using hown) (World.grownBy.refl w _) (by simp)
  · exact wpList_append_own w hgd s x t ho base e i z size bytes ht hi hz0 hz1 hz2 hzs hsz v n xs hs hown ad m c news hx hl hnews h1 h63 hbytes hbase h

theorem take_snoc (s : ByteArray) (k : Nat) (h : k < s.size) : s.data.toList.take (k + 1) = s.data.toList.take k ++ [s[k]] := by
  rw [List.take_succ_eq_append_getElem (by simpa using h)]; rfl

/-- A block that reads as an array of cells. -/
def Box (W : World) (b : Nat) (A : Array Value) : Prop := b < W.heap.size ∧ ∀ j, W.cell? ⟨b, j, none⟩ = A[j]?
theorem Box.ext {W W' : World} {b : Nat} {A : Array Value} (h : Box W b A) (hb : Below W.heap.size W W') : Box W' b A :=
  ⟨Nat.lt_of_lt_of_le h.1 hb.size, fun j => (hb.cell (p := ⟨b, j, none⟩) h.1).trans (h.2 j)⟩
theorem Box.new (w : World) (A : Array Value) (t : TypeId) : Box (w.alloc (.cells A t)) w.heap.size A := ⟨by simp, fun j => by simp⟩

/-- A struct parameter's block, and from here on the world under a name. -/
theorem wp_box1 {P : Program} {c : Code} {Q : Exit → Act → World → Prop} {a : Act} {w : World} {A : Array Value} {t : TypeId}
    (h : ∀ W, W.heap.size = w.heap.size + 1 → Below w.heap.size w W → Box W w.heap.size A → c.wp P Q a W) : c.wp P Q a (w.alloc (.cells A t)) :=
  h _ (by simp) ((Below.refl _ _).alloc (Nat.le_refl _) _) (Box.new _ _ _)
/-- What a region that draws its order holds on to: the world is an extension of W, and two blocks read as they did. -/
abbrev S2 (W : World) (b1 : Nat) (A1 : Array Value) (b2 : Nat) (A2 : Array Value) (w' : World) : Prop :=
  Below W.heap.size W w' ∧ (∀ j, w'.cell? ⟨b1, j, none⟩ = A1[j]?) ∧ (∀ j, w'.cell? ⟨b2, j, none⟩ = A2[j]?)
theorem S2.start {W : World} {b1 : Nat} {A1 : Array Value} {b2 : Nat} {A2 : Array Value} (h1 : Box W b1 A1) (h2 : Box W b2 A2) : S2 W b1 A1 b2 A2 W.drew :=
  ⟨(Below.refl _ _).drew, h1.2, h2.2⟩
theorem S2.base {W w' : World} {b1 : Nat} {A1 : Array Value} {b2 : Nat} {A2 : Array Value} (h : S2 W b1 A1 b2 A2 w') : Below W.heap.size W w' := h.1
theorem S2.ext {W w1 w2 : World} {b1 : Nat} {A1 : Array Value} {b2 : Nat} {A2 : Array Value} (hb : Below w1.heap.size w1 w2) (h : S2 W b1 A1 b2 A2 w1) (h1 : Box W b1 A1) (h2 : Box W b2 A2) : S2 W b1 A1 b2 A2 w2 :=
  ⟨ext_trans h.1 hb, fun j => (hb.cell (p := ⟨b1, j, none⟩) (Nat.lt_of_lt_of_le h1.1 h.1.size)).trans (h.2.1 j), fun j => (hb.cell (p := ⟨b2, j, none⟩) (Nat.lt_of_lt_of_le h2.1 h.1.size)).trans (h.2.2 j)⟩

theorem ret_int {k : IntKind} {a b : Int} (h : a = b) : Ending.returned (.int k a) = .returned (.int k b) := by rw [h]

/-- a number of 64 bits -/
def i64ok (n : Int) : Prop := -9223372036854775808 ≤ n ∧ n ≤ 9223372036854775807
end Go.Proofs.YtkjgifhklajifaaDoor
namespace Go.Proofs.YtkjgifhklajifaaDoor
open Go.RowKit

/-- A list of things, each of which lies in some cells, one behind the other. -/
def Reps {α : Type} (R : α → List Value → Prop) : List α → List Value → Prop
  | [], cs => cs = []
  | x :: xs, cs => ∃ c r, cs = c ++ r ∧ R x c ∧ Reps R xs r

theorem Reps.mono {α : Type} {R R' : α → List Value → Prop} (h : ∀ x c, R x c → R' x c) : ∀ {l : List α} {cs : List Value}, Reps R l cs → Reps R' l cs
  | [], _, hr => hr
  | _ :: _, _, ⟨c, r, e, h1, h2⟩ => ⟨c, r, e, h _ _ h1, Reps.mono h h2⟩
theorem Reps.length {α : Type} {R : α → List Value → Prop} {sz : Nat} (hs : ∀ x c, R x c → c.length = sz) : ∀ {l : List α} {cs : List Value}, Reps R l cs → cs.length = l.length * sz
  | [], _, hr => by cases hr; simp
  | _ :: l, _, ⟨c, r, e, h1, h2⟩ => by
    subst e
    rw [List.length_append, hs _ _ h1, Reps.length hs h2, List.length_cons, Nat.add_mul]
    omega
theorem Reps.get {α : Type} {R : α → List Value → Prop} {sz : Nat} (hs : ∀ x c, R x c → c.length = sz) : ∀ {l : List α} {cs : List Value} {i : Nat} {x : α}, Reps R l cs → l[i]? = some x → ∃ c, R x c ∧ ∀ j u, c[j]? = some u → cs[i * sz + j]? = some u
  | [], _, _, _, _, hx => by simp at hx
  | y :: l, cs, 0, x, h, hx => by
    obtain ⟨c, r, rfl, h1, h2⟩ := h
    obtain rfl : y = x := by simpa using hx
    refine ⟨c, h1, fun j u hu => ?_⟩
    rw [Nat.zero_mul, Nat.zero_add, List.getElem?_append_left (List.getElem?_eq_some_iff.1 hu).1]; exact hu
  | y :: l, cs, i + 1, x, h, hx => by
    obtain ⟨c, r, rfl, h1, h2⟩ := h
    obtain ⟨c', h3, h4⟩ := Reps.get hs h2 (by simpa using hx)
    refine ⟨c', h3, fun j u hu => ?_⟩
    have hl := hs _ _ h1
    have e : (i + 1) * sz + j = c.length + (i * sz + j) := by rw [hl, Nat.add_mul]; omega
    rw [e, List.getElem?_append_right (by omega), ← h4 j u hu]
    congr 1; omega

theorem addr_of_cell {w : World} {a : Addr} {v : Value} (h : w.cell? a = some v) : a = ⟨a.block, a.off, none⟩ := by
  cases a with | mk b o s =>
  cases s with
  | none => rfl
  | some k =>
    exfalso
    unfold World.cell? at h
    simp only at h
    split at h <;> simp at h

theorem add_add_none (b o i j : Nat) : ((⟨b, o, none⟩ : Addr).add i).add j = ⟨b, o + (i + j), none⟩ := by
  rw [add_spot, add_spot, Nat.add_assoc]

/-- A value of more cells than one is an aggregate of them. -/
theorem agg_of_cells {v : Value} (h : v.cells.toList.length ≠ 1) : v = .agg v.cells.toList.toArray := by
  cases v <;> simp_all [Value.cells]
theorem i64ok_of {n : Int} (h : (Lit.int .i64 n).wf = true) : i64ok n := by
  simpa [Lit.wf, IntKind.min, IntKind.max, IntKind.signed, IntKind.bits, i64ok] using h
end Go.Proofs.YtkjgifhklajifaaDoor
namespace Go.Proofs.YtkjgifhklajifaaDoor
open Go.RowKit

def cmpI (a b : Int) : Int := if a < b then -1 else if b < a then 1 else 0
def cmpS (a b : ByteArray) : Int := Lib.compareBytes a.data.toList b.data.toList

/-- '<' on the bytes of two strings, as the model has it, by compareBytes -/
theorem less_iff : ∀ (a b : List UInt8), Op.bytesLess a b = decide (Lib.compareBytes a b < 0)
  | [], [] => by simp [Op.bytesLess, Lib.compareBytes]
  | [], _ :: _ => by simp [Op.bytesLess, Lib.compareBytes]
  | _ :: _, [] => by simp [Op.bytesLess, Lib.compareBytes]
  | x :: a, y :: b => by
    have ih := less_iff a b
    simp only [Op.bytesLess, Lib.compareBytes]
    by_cases h1 : x < y
    · simp [h1]
    · by_cases h2 : y < x
      · have : (x == y) = false := by
          rw [beq_eq_false_iff_ne]; intro e; subst e; exact h1 h2
        simp [h1, h2, this]
      · have : x = y := UInt8.le_antisymm (UInt8.not_lt.1 h2) (UInt8.not_lt.1 h1)
        subst this
        simp [h1, ih]
theorem compare_self : ∀ a : List UInt8, Lib.compareBytes a a = 0
  | [] => rfl
  | x :: a => by simp [Lib.compareBytes, UInt8.lt_irrefl, compare_self a]
theorem compare_zero : ∀ {a b : List UInt8}, Lib.compareBytes a b = 0 → a = b
  | [], [], _ => rfl
  | [], _ :: _, h => by simp [Lib.compareBytes] at h
  | _ :: _, [], h => by simp [Lib.compareBytes] at h
  | x :: a, y :: b, h => by
    simp only [Lib.compareBytes] at h
    by_cases h1 : x < y
    · simp [h1] at h
    · by_cases h2 : y < x
      · simp [h1, h2] at h
      · have : x = y := UInt8.le_antisymm (UInt8.not_lt.1 h2) (UInt8.not_lt.1 h1)
        subst this
        simp [h1] at h
        rw [compare_zero h]
theorem compare_anti : ∀ (a b : List UInt8), Lib.compareBytes b a = - Lib.compareBytes a b
  | [], [] => rfl
  | [], _ :: _ => rfl
  | _ :: _, [] => rfl
  | x :: a, y :: b => by
    have ih := compare_anti a b
    simp only [Lib.compareBytes]
    by_cases h1 : x < y
    · have h2 : ¬ y < x := fun h => UInt8.lt_irrefl _ (UInt8.lt_trans h1 h)
      simp [h1, h2]
    · by_cases h2 : y < x
      · simp [h1, h2]
      · simp [h1, h2, ih]
theorem compare_tri : ∀ (a b : List UInt8), Lib.compareBytes a b = -1 ∨ Lib.compareBytes a b = 0 ∨ Lib.compareBytes a b = 1
  | [], [] => .inr (.inl rfl)
  | [], _ :: _ => .inl rfl
  | _ :: _, [] => .inr (.inr rfl)
  | x :: a, y :: b => by
    have ih := compare_tri a b
    simp only [Lib.compareBytes]
    by_cases h1 : x < y
    · simp [h1]
    · by_cases h2 : y < x
      · simp [h1, h2]
      · simpa [h1, h2] using ih
theorem compare_trans : ∀ {a b c : List UInt8}, Lib.compareBytes a b ≤ 0 → Lib.compareBytes b c ≤ 0 → Lib.compareBytes a c ≤ 0
  | [], _, [], _, _ => by simp [Lib.compareBytes]
  | [], _, _ :: _, _, _ => by simp [Lib.compareBytes]
  | _ :: _, [], _, h, _ => by simp [Lib.compareBytes] at h
  | _ :: _, _ :: _, [], _, h => by simp [Lib.compareBytes] at h
  | x :: a, y :: b, z :: c, h, k => by
    simp only [Lib.compareBytes] at h k ⊢
    by_cases h1 : x < y
    · by_cases k1 : y < z
      · simp [UInt8.lt_trans h1 k1]
      · by_cases k2 : z < y
        · simp [k1, k2] at k
        · have : y = z := UInt8.le_antisymm (UInt8.not_lt.1 k2) (UInt8.not_lt.1 k1)
          subst this; simp [h1]
    · by_cases h2 : y < x
      · simp [h1, h2] at h
      · have : x = y := UInt8.le_antisymm (UInt8.not_lt.1 h2) (UInt8.not_lt.1 h1)
        subst this
        simp only [h1, if_false] at h
        by_cases k1 : x < z
        · simp [k1]
        · by_cases k2 : z < x
          · simp [k1, k2] at k
          · simp only [k1, k2, if_false] at k ⊢
            exact compare_trans h k

theorem cmpI_self (a : Int) : cmpI a a = 0 := by unfold cmpI; simp
theorem cmpI_zero {a b : Int} (h : cmpI a b = 0) : a = b := by
  unfold cmpI at h
  by_cases h1 : a < b
  · simp [h1] at h
  · by_cases h2 : b < a
    · simp [h1, h2] at h
    · omega
theorem cmpI_anti (a b : Int) : cmpI b a = - cmpI a b := by unfold cmpI; split <;> split <;> simp_all <;> omega
theorem cmpI_tri (a b : Int) : cmpI a b = -1 ∨ cmpI a b = 0 ∨ cmpI a b = 1 := by
  unfold cmpI
  by_cases h1 : a < b
  · simp [h1]
  · by_cases h2 : b < a <;> simp [h1, h2]
theorem cmpI_trans {a b c : Int} (h : cmpI a b ≤ 0) (k : cmpI b c ≤ 0) : cmpI a c ≤ 0 := by
  unfold cmpI at *
  by_cases h1 : a < b <;> by_cases h2 : b < a <;> by_cases k1 : b < c <;> by_cases k2 : c < b <;> by_cases l1 : a < c <;> by_cases l2 : c < a <;> simp_all <;> omega

theorem bytes_ext {a b : ByteArray} (h : a.data.toList = b.data.toList) : a = b := by
  cases a with | mk a => cases b with | mk b =>
    simp only [ByteArray.mk.injEq]
    exact Array.toList_inj.1 h
theorem cmpS_self (a : ByteArray) : cmpS a a = 0 := compare_self _
theorem cmpS_zero {a b : ByteArray} (h : cmpS a b = 0) : a = b := bytes_ext (compare_zero h)
theorem cmpS_anti (a b : ByteArray) : cmpS b a = - cmpS a b := compare_anti _ _
theorem cmpS_tri (a b : ByteArray) : cmpS a b = -1 ∨ cmpS a b = 0 ∨ cmpS a b = 1 := compare_tri _ _
theorem cmpS_trans {a b c : ByteArray} (h : cmpS a b ≤ 0) (k : cmpS b c ≤ 0) : cmpS a c ≤ 0 := compare_trans h k

theorem isNaN_string (a : ByteArray) (w : World) : Calls Tryd.prog 72 #[.string a] w fun e w' => e = .returned (.bool false) ∧ w = w' := by
  go_enter Tryd.func72, Tryd.ntmps72
  go_wp2
  go_ret
  simp

theorem cmpS_lt {a b : ByteArray} (h : Op.bytesLess a.toList b.toList = true) : cmpS a b = -1 := by
  rw [ByteArray.toList_eq, ByteArray.toList_eq, less_iff] at h
  have := cmpS_tri a b
  unfold cmpS at *
  simp at h; omega
theorem cmpS_eq {a b : ByteArray} (h : (!a.toList == b.toList) = false) : cmpS a b = 0 := by
  rw [ByteArray.toList_eq, ByteArray.toList_eq] at h
  have e : a.data.toList = b.data.toList := by simpa using h
  unfold cmpS; rw [e]; exact compare_self _
theorem cmpS_gt {a b : ByteArray} (h : Op.bytesLess a.toList b.toList = false) (k : (!a.toList == b.toList) = true) : cmpS a b = 1 := by
  rw [ByteArray.toList_eq, ByteArray.toList_eq] at h k
  rw [less_iff] at h
  have := cmpS_tri a b
  have hne : cmpS a b ≠ 0 := fun e => by
    have := compare_zero e
    rw [this] at k; simp at k
  unfold cmpS at *
  simp at h; omega
set_option maxHeartbeats 1000000 in
theorem cmp_string (a b : ByteArray) (w : World) : Calls Tryd.prog 42 #[.string a, .string b] w fun e w' => e = .returned (.int .i64 (cmpS a b)) ∧ w = w' := by
  go_enter Tryd.func42, Tryd.ntmps42
  go_wp2_with (go_at_call 72; refine (isNaN_string _ _).mono ?_; rintro e w' ⟨rfl, rfl⟩)
  · go_ret
    exact ⟨ret_int (cmpS_lt ‹_›).symm, rfl⟩
  · go_ret
    exact ⟨ret_int (cmpS_gt ‹Op.bytesLess _ _ = false› ‹(!_) = true›).symm, rfl⟩
  · go_ret
    exact ⟨ret_int (cmpS_eq ‹(!_) = false›).symm, rfl⟩

/-- cmp.Or at two ints: the first that is not 0 -/
def orI (a b : Int) : Int := if a = 0 then b else a
end Go.Proofs.YtkjgifhklajifaaDoor
namespace Go.Proofs.YtkjgifhklajifaaDoor
open Go.RowKit
mutual
inductive V where
  | mk (kind n : Int) (s : ByteArray) (items : List V) (fields : List F)
inductive F where
  | mk (name : ByteArray) (v : V)
end
mutual
/-- five cells read as a value -/
def RepV (w : World) : V → List Value → Prop
  | .mk k n s is fs, cs => ∃ vi vf ics fcs, cs = [.int .i64 k, .int .i64 n, .string s, vi, vf] ∧ i64ok k ∧ i64ok n ∧ s.size ≤ maxLen ∧ Sl w vi is.length ics ∧ RepL w is ics ∧ Sl w vf fs.length fcs ∧ RepFs w fs fcs
def RepL (w : World) : List V → List Value → Prop
  | [], cs => cs = []
  | x :: xs, cs => ∃ c r, cs = c ++ r ∧ RepV w x c ∧ RepL w xs r
/-- six cells read as a field -/
def RepF (w : World) : F → List Value → Prop
  | .mk a x, cs => ∃ c, cs = .string a :: c ∧ a.size ≤ maxLen ∧ RepV w x c
def RepFs (w : World) : List F → List Value → Prop
  | [], cs => cs = []
  | x :: xs, cs => ∃ c r, cs = c ++ r ∧ RepF w x c ∧ RepFs w xs r
end
mutual
theorem RepV.ext {w w' : World} (hb : Below w.heap.size w w') : ∀ {x : V} {cs : List Value}, RepV w x cs → RepV w' x cs
  | .mk k n s is fs, cs, h => by
    simp only [RepV] at h ⊢
    obtain ⟨vi, vf, ics, fcs, h0, h1, h2, h3, h4, h5, h6, h7⟩ := h
    exact ⟨vi, vf, ics, fcs, h0, h1, h2, h3, h4.ext hb, RepL.ext hb h5, h6.ext hb, RepFs.ext hb h7⟩
theorem RepL.ext {w w' : World} (hb : Below w.heap.size w w') : ∀ {x : List V} {cs : List Value}, RepL w x cs → RepL w' x cs
  | [], cs, h => by simpa only [RepL] using h
  | x :: xs, cs, h => by
    simp only [RepL] at h ⊢
    obtain ⟨c, r, h0, h1, h2⟩ := h
    exact ⟨c, r, h0, RepV.ext hb h1, RepL.ext hb h2⟩
theorem RepF.ext {w w' : World} (hb : Below w.heap.size w w') : ∀ {x : F} {cs : List Value}, RepF w x cs → RepF w' x cs
  | .mk a x, cs, h => by
    simp only [RepF] at h ⊢
    obtain ⟨c, h0, h1, h2⟩ := h
    exact ⟨c, h0, h1, RepV.ext hb h2⟩
theorem RepFs.ext {w w' : World} (hb : Below w.heap.size w w') : ∀ {x : List F} {cs : List Value}, RepFs w x cs → RepFs w' x cs
  | [], cs, h => by simpa only [RepFs] using h
  | x :: xs, cs, h => by
    simp only [RepFs] at h ⊢
    obtain ⟨c, r, h0, h1, h2⟩ := h
    exact ⟨c, r, h0, RepF.ext hb h1, RepFs.ext hb h2⟩
end
theorem RepV.len {w : World} {x : V} {cs : List Value} (h : RepV w x cs) : cs.length = 5 := by
  cases x; simp only [RepV] at h; obtain ⟨_, _, _, _, rfl, _⟩ := h; rfl
theorem RepF.len {w : World} {x : F} {cs : List Value} (h : RepF w x cs) : cs.length = 6 := by
  cases x; simp only [RepF] at h; obtain ⟨_, rfl, _, h⟩ := h; simp [h.len]
theorem RepL.get {w : World} : ∀ {l : List V} {cs : List Value} {i : Nat} {x : V}, RepL w l cs → l[i]? = some x → ∃ c, RepV w x c ∧ ∀ j u, c[j]? = some u → cs[i * 5 + j]? = some u
  | [], _, _, _, _, hx => by simp at hx
  | y :: l, cs, 0, x, h, hx => by
    simp only [RepL] at h
    obtain ⟨c, r, rfl, h1, h2⟩ := h
    obtain rfl : y = x := by simpa using hx
    refine ⟨c, h1, fun j u hu => ?_⟩
    rw [Nat.zero_mul, Nat.zero_add, List.getElem?_append_left (List.getElem?_eq_some_iff.1 hu).1]; exact hu
  | y :: l, cs, i + 1, x, h, hx => by
    simp only [RepL] at h
    obtain ⟨c, r, rfl, h1, h2⟩ := h
    obtain ⟨c', h3, h4⟩ := RepL.get h2 (by simpa using hx)
    refine ⟨c', h3, fun j u hu => ?_⟩
    have hl := h1.len
    rw [List.getElem?_append_right (by omega), ← h4 j u hu]
    congr 1; omega
theorem RepFs.get {w : World} : ∀ {l : List F} {cs : List Value} {i : Nat} {x : F}, RepFs w l cs → l[i]? = some x → ∃ c, RepF w x c ∧ ∀ j u, c[j]? = some u → cs[i * 6 + j]? = some u
  | [], _, _, _, _, hx => by simp at hx
  | y :: l, cs, 0, x, h, hx => by
    simp only [RepFs] at h
    obtain ⟨c, r, rfl, h1, h2⟩ := h
    obtain rfl : y = x := by simpa using hx
    refine ⟨c, h1, fun j u hu => ?_⟩
    rw [Nat.zero_mul, Nat.zero_add, List.getElem?_append_left (List.getElem?_eq_some_iff.1 hu).1]; exact hu
  | y :: l, cs, i + 1, x, h, hx => by
    simp only [RepFs] at h
    obtain ⟨c, r, rfl, h1, h2⟩ := h
    obtain ⟨c', h3, h4⟩ := RepFs.get h2 (by simpa using hx)
    refine ⟨c', h3, fun j u hu => ?_⟩
    have hl := h1.len
    rw [List.getElem?_append_right (by omega), ← h4 j u hu]
    congr 1; omega

mutual
def cmpV : V → V → Int
  | .mk k n s is fs, .mk k' n' s' is' fs' =>
    if k ≠ k' then cmpI k k' else if k = 1 ∨ k = 2 then cmpI n n' else if k = 3 then cmpS s s' else if k = 4 then cmpL is is' else if k = 5 then cmpFs fs fs' else 0
def cmpL : List V → List V → Int
  | [], [] => 0
  | [], _ :: _ => -1
  | _ :: _, [] => 1
  | x :: xs, y :: ys => orI (cmpV x y) (cmpL xs ys)
def cmpF : F → F → Int
  | .mk a x, .mk b y => orI (cmpS a b) (cmpV x y)
def cmpFs : List F → List F → Int
  | [], [] => 0
  | [], _ :: _ => -1
  | _ :: _, [] => 1
  | x :: xs, y :: ys => orI (cmpF x y) (cmpFs xs ys)
end
theorem orI_neg (a b : Int) : orI (-a) (-b) = - orI a b := by
  unfold orI; by_cases h : a = 0
  · simp [h]
  · have : -a ≠ 0 := by omega
    simp [h]
theorem orI_tri {a b : Int} (h : a = -1 ∨ a = 0 ∨ a = 1) (k : b = -1 ∨ b = 0 ∨ b = 1) : orI a b = -1 ∨ orI a b = 0 ∨ orI a b = 1 := by
  unfold orI; split <;> assumption
/-- what a first and a second comparison say of a third -/
def T3 (a b c : Int) : Prop := a ≤ 0 → b ≤ 0 → c ≤ 0 ∧ (c = 0 → a = 0 ∧ b = 0)
theorem T3.or {a b c a' b' c' : Int} (h : T3 a b c) (k : T3 a' b' c') : T3 (orI a a') (orI b b') (orI c c') := by
  unfold T3 at h k
  unfold T3 orI
  by_cases ea : a = 0 <;> by_cases eb : b = 0 <;> by_cases ec : c = 0
  all_goals (first | rw [if_pos ea] | rw [if_neg ea])
  all_goals (first | rw [if_pos eb] | rw [if_neg eb])
  all_goals (first | rw [if_pos ec] | rw [if_neg ec])
  all_goals (intro h1 h2; refine ⟨?_, fun e => ?_⟩ <;> omega)
theorem T3.of {α : Type} {c : α → α → Int} (anti : ∀ x y, c y x = - c x y) (tr : ∀ x y z, c x y ≤ 0 → c y z ≤ 0 → c x z ≤ 0) (x y z : α) : T3 (c x y) (c y z) (c x z) := by
  intro h1 h2
  have h3 := tr x y z h1 h2
  refine ⟨h3, fun e => ?_⟩
  have a1 := anti x z
  have a2 := anti x y
  have a3 := anti y z
  have t1 := tr y z x h2 (by omega)
  have t2 := tr z x y (by omega) h1
  omega
theorem cmpI_T3 (x y z : Int) : T3 (cmpI x y) (cmpI y z) (cmpI x z) := T3.of cmpI_anti (fun _ _ _ => cmpI_trans) x y z
theorem cmpS_T3 (x y z : ByteArray) : T3 (cmpS x y) (cmpS y z) (cmpS x z) := T3.of cmpS_anti (fun _ _ _ => cmpS_trans) x y z

mutual
theorem cmpV_self : ∀ x : V, cmpV x x = 0
  | .mk k n s is fs => by
    simp only [cmpV, cmpI_self, cmpS_self, cmpL_self is, cmpFs_self fs]; simp
theorem cmpL_self : ∀ x : List V, cmpL x x = 0
  | [] => by simp [cmpL]
  | x :: xs => by simp [cmpL, cmpV_self x, cmpL_self xs, orI]
theorem cmpF_self : ∀ x : F, cmpF x x = 0
  | .mk a x => by simp [cmpF, cmpS_self, cmpV_self x, orI]
theorem cmpFs_self : ∀ x : List F, cmpFs x x = 0
  | [] => by simp [cmpFs]
  | x :: xs => by simp [cmpFs, cmpF_self x, cmpFs_self xs, orI]
end
mutual
theorem cmpV_anti : ∀ x y : V, cmpV y x = - cmpV x y
  | .mk k n s is fs, .mk k' n' s' is' fs' => by
    simp only [cmpV]
    by_cases hk : k = k'
    · subst hk
      rw [cmpI_anti n n', cmpS_anti s s', cmpL_anti is is', cmpFs_anti fs fs']
      (repeat' split) <;> first | rfl | simp_all
    · have : k' ≠ k := fun e => hk e.symm
      simp [hk, this, cmpI_anti k k']
theorem cmpL_anti : ∀ x y : List V, cmpL y x = - cmpL x y
  | [], [] => by simp [cmpL]
  | [], _ :: _ => by simp [cmpL]
  | _ :: _, [] => by simp [cmpL]
  | x :: xs, y :: ys => by simp only [cmpL]; rw [cmpV_anti x y, cmpL_anti xs ys, orI_neg]
theorem cmpF_anti : ∀ x y : F, cmpF y x = - cmpF x y
  | .mk a x, .mk b y => by simp only [cmpF]; rw [cmpS_anti a b, cmpV_anti x y, orI_neg]
theorem cmpFs_anti : ∀ x y : List F, cmpFs y x = - cmpFs x y
  | [], [] => by simp [cmpFs]
  | [], _ :: _ => by simp [cmpFs]
  | _ :: _, [] => by simp [cmpFs]
  | x :: xs, y :: ys => by simp only [cmpFs]; rw [cmpF_anti x y, cmpFs_anti xs ys, orI_neg]
end
mutual
theorem cmpV_tri : ∀ x y : V, cmpV x y = -1 ∨ cmpV x y = 0 ∨ cmpV x y = 1
  | .mk k n s is fs, .mk k' n' s' is' fs' => by
    have h1 := cmpI_tri k k'
    have h2 := cmpI_tri n n'
    have h3 := cmpS_tri s s'
    have h4 := cmpL_tri is is'
    have h5 := cmpFs_tri fs fs'
    simp only [cmpV]
    (repeat' split) <;> first | assumption | simp
theorem cmpL_tri : ∀ x y : List V, cmpL x y = -1 ∨ cmpL x y = 0 ∨ cmpL x y = 1
  | [], [] => by simp [cmpL]
  | [], _ :: _ => by simp [cmpL]
  | _ :: _, [] => by simp [cmpL]
  | x :: xs, y :: ys => by simp only [cmpL]; exact orI_tri (cmpV_tri x y) (cmpL_tri xs ys)
theorem cmpF_tri : ∀ x y : F, cmpF x y = -1 ∨ cmpF x y = 0 ∨ cmpF x y = 1
  | .mk a x, .mk b y => by simp only [cmpF]; exact orI_tri (cmpS_tri a b) (cmpV_tri x y)
theorem cmpFs_tri : ∀ x y : List F, cmpFs x y = -1 ∨ cmpFs x y = 0 ∨ cmpFs x y = 1
  | [], [] => by simp [cmpFs]
  | [], _ :: _ => by simp [cmpFs]
  | _ :: _, [] => by simp [cmpFs]
  | x :: xs, y :: ys => by simp only [cmpFs]; exact orI_tri (cmpF_tri x y) (cmpFs_tri xs ys)
end
theorem cmpV_or (k n : Int) (s : ByteArray) (is : List V) (fs : List F) (k' n' : Int) (s' : ByteArray) (is' : List V) (fs' : List F) :
    cmpV (.mk k n s is fs) (.mk k' n' s' is' fs') = orI (cmpI k k') (if k = 1 ∨ k = 2 then cmpI n n' else if k = 3 then cmpS s s' else if k = 4 then cmpL is is' else if k = 5 then cmpFs fs fs' else 0) := by
  simp only [cmpV, orI]
  by_cases hk : k = k'
  · subst hk; simp [cmpI_self]
  · have : cmpI k k' ≠ 0 := fun e => hk (cmpI_zero e)
    simp [hk, this]
theorem T3.zero : T3 0 0 0 := by unfold T3; omega
mutual
theorem cmpV_T3 : ∀ x y z : V, T3 (cmpV x y) (cmpV y z) (cmpV x z)
  | .mk k n s is fs, .mk k' n' s' is' fs', .mk k'' n'' s'' is'' fs'' => by
    by_cases hk : k = k'
    · subst hk
      rw [cmpV_or, cmpV_or, cmpV_or]
      refine T3.or (cmpI_T3 _ _ _) ?_
      by_cases h1 : k = 1 ∨ k = 2
      · simp only [h1, if_true]; exact cmpI_T3 _ _ _
      · by_cases h3 : k = 3
        · simp only [if_neg h1, if_pos h3]; exact cmpS_T3 _ _ _
        · by_cases h4 : k = 4
          · simp only [if_neg h1, if_neg h3, if_pos h4]; exact cmpL_T3 is is' is''
          · by_cases h5 : k = 5
            · simp only [if_neg h1, if_neg h3, if_neg h4, if_pos h5]; exact cmpFs_T3 fs fs' fs''
            · simp only [h1, h3, h4, h5, if_false]; exact T3.zero
    · have h0 := cmpI_T3 k k' k''
      have h1 : cmpI k k' ≠ 0 := fun e => hk (cmpI_zero e)
      intro a b
      rw [cmpV_or] at a b
      rw [cmpV_or, cmpV_or, cmpV_or]
      have a' : cmpI k k' ≤ 0 := by unfold orI at a; rw [if_neg h1] at a; exact a
      have b' : cmpI k' k'' ≤ 0 := by unfold orI at b; split at b <;> omega
      have c := h0 a' b'
      have c1 : cmpI k k'' ≠ 0 := fun e => h1 (c.2 e).1
      unfold orI
      rw [if_neg c1]
      exact ⟨c.1, fun e => (c1 e).elim⟩
theorem cmpL_T3 : ∀ x y z : List V, T3 (cmpL x y) (cmpL y z) (cmpL x z)
  | [], [], [] => by simp [cmpL, T3]
  | [], [], _ :: _ => by simp [cmpL, T3]
  | [], _ :: _, [] => by simp [cmpL, T3]
  | [], _ :: _, _ :: _ => by simp [cmpL, T3]
  | _ :: _, [], _ => by simp [cmpL, T3]
  | _ :: _, _ :: _, [] => by simp [cmpL, T3]
  | x :: xs, y :: ys, z :: zs => by simp only [cmpL]; exact T3.or (cmpV_T3 x y z) (cmpL_T3 xs ys zs)
theorem cmpF_T3 : ∀ x y z : F, T3 (cmpF x y) (cmpF y z) (cmpF x z)
  | .mk a x, .mk b y, .mk c z => by simp only [cmpF]; exact T3.or (cmpS_T3 a b c) (cmpV_T3 x y z)
theorem cmpFs_T3 : ∀ x y z : List F, T3 (cmpFs x y) (cmpFs y z) (cmpFs x z)
  | [], [], [] => by simp [cmpFs, T3]
  | [], [], _ :: _ => by simp [cmpFs, T3]
  | [], _ :: _, [] => by simp [cmpFs, T3]
  | [], _ :: _, _ :: _ => by simp [cmpFs, T3]
  | _ :: _, [], _ => by simp [cmpFs, T3]
  | _ :: _, _ :: _, [] => by simp [cmpFs, T3]
  | x :: xs, y :: ys, z :: zs => by simp only [cmpFs]; exact T3.or (cmpF_T3 x y z) (cmpFs_T3 xs ys zs)
end
end Go.Proofs.YtkjgifhklajifaaDoor
