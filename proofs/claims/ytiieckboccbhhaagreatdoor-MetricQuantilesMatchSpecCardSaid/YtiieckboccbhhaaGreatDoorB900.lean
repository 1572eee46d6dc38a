/- The frame of every law: a call that returns true, and leaves all that was there as it was, meets the row's post. Words for slices that are read and small facts on worlds, for all walks of this seat: no program stands in it. How the arguments of a law, read as data, lie in memory: slices of whatever elements, field by field. Ratios, tests and trials that are read as data. Plain: ways to chooseN, and the sum of them with powers. No program stands in it. Plain: the tails of a binomial, and the ranks between which a quantile lies. No program stands in it. -/
import Derived.Test.YtiieckboccbhhaaGreatDoorRows
import Derived.WalkKit
import Derived.ProofKit
import Derived.SizedLaws
import Derived.OpenShut
import Derived.JoinedCond
import Derived.Deep.CondSized
import Derived.WalkSpells
import Derived.WalkLawsBesides
import Derived.Handy
import Derived.Lib.Hide
import Derived.Lib.ConvBytes
import Derived.Deep.DeepAppendRoom
import Derived.Laws.AppendOwnNone
import Derived.ChangeArms
import Derived.DataReads
import Derived.Test.YtiieckboccbhhaaGreatDoorProg
namespace Go.Proofs.YtiieckboccbhhaaGreatDoor
open Go.ChangeShapes Go.WideShapes Go.ChangeAt Go.RowKit

theorem own : ownKnob Tryz.prog.godebug = none := by kernel_rfl
theorem laidOut : laidOutB Tryz.prog = true := by kernel_rfl

theorem trodAll_below {H : Type} {enc : TypeId × Value → H} {P : Program} (hl : laidOutB P = true) {W W' : World} (hb : Below W.heap.size W W') :
    ∀ (ts : List TypeId) (vs : List Value) (ds : List (DataW H)) (ps : List MemPlace), (∀ t ∈ ts, P.readableRec t = true ∧ t < P.types.size) →
      DataW.TrodAll enc P W 0 (fun _ => true) true ts vs ds ps → (∀ x ∈ ps, x.block < W.heap.size) →
      DataW.TrodAll enc P W' 0 (fun b => decide (b < W.heap.size)) true ts vs ds ps
  | [], [], [], ps, _, h, _ => h
  | t :: ts, v :: vs, d :: ds, ps, hr, h, hlt => by
    obtain ⟨p, q, h1, h2, rfl⟩ := h
    refine ⟨p, q, Below.trod hl (hr t (by simp)).1 (hr t (by simp)).2 h1 hb (fun x hx => hlt x (by simp [hx])), ?_, rfl⟩
    exact trodAll_below hl hb ts vs ds q (fun t ht => hr t (by simp [ht])) h2 (fun x hx => hlt x (by simp [hx]))
  | [], [], _ :: _, _, _, h, _ => h.elim
  | [], _ :: _, [], _, _, h, _ => h.elim
  | [], _ :: _, _ :: _, _, _, h, _ => h.elim
  | _ :: _, [], [], _, _, h, _ => h.elim
  | _ :: _, [], _ :: _, _, _, h, _ => h.elim
  | _ :: _, _ :: _, [], _, _, h, _ => h.elim

theorem law_post {H : Type} {enc : TypeId × Value → H} {P : Program} (hl : laidOutB P = true) {f : Func} {s : ChangeSpec} (hv : s.vars = []) {W W' : World} {args : Array Value} {ds gs : List (DataW H)} {before : List MemPlace}
    (hW : DataW.Whole enc P f.params.toList s.vars false W args.toList ds gs before) (hb : Below W.heap.size W W')
    (hr0 : (f.params.toList.all fun t => P.readableRec t && decide (t < P.types.size)) = true) {tb : TypeId} (hres : f.resultTypes = #[tb]) (hub : P.underlying tb = some .bool)
    (hfn : s.fn H (ds ++ gs) = { results := [.lit (.bool true)], args := ds }) : s.post enc P f false true false false W args (.bool true) W' := by
  have hlt := hW.lt
  have hr : ∀ t ∈ f.params.toList, P.readableRec t = true ∧ t < P.types.size := fun t ht => by simpa using List.all_eq_true.1 hr0 t ht
  have hW' := hW
  obtain ⟨p, q, hA, hV, rfl, _, _⟩ := hW
  rw [hv] at hV
  obtain ⟨rfl, rfl⟩ := trodVars_none hV
  refine ⟨ds, [], _, [], p, [], hW', ?_, ?_, ?_, hb.frame _, fun h => by cases h⟩
  · rw [hfn, hres]
    exact trodAll_cons_mk (shut_bool hub true) trodAll_mk0
  · rw [hfn]
    exact trodAll_below hl hb _ _ _ _ hr hA (fun x hx => hlt x (by simp [hx]))
  · rw [hfn, hv]
    rfl
end Go.Proofs.YtiieckboccbhhaaGreatDoor
namespace Go.Proofs.YtiieckboccbhhaaGreatDoor
open Go.RowKit

/-- The slice value v has n elements, and reads as the cells cs. -/
def Sl (w : World) (v : Value) (n : Nat) (cs : List Value) : Prop :=
  ∃ (a : Option Addr) (cap : Nat), v = .slice a n cap ∧ n ≤ cap ∧ cap ≤ maxLen ∧ (a = none → cap = 0) ∧ ∀ i x, cs[i]? = some x → ∃ b o, a = some ⟨b, o, none⟩ ∧ w.cell? ⟨b, o + i, none⟩ = some x

theorem Sl.ext {w w' : World} {v : Value} {n : Nat} {cs : List Value} (h : Sl w v n cs) (hb : Below w.heap.size w w') : Sl w' v n cs := by
  obtain ⟨a, cap, hv, h1, h2, h0, h3⟩ := h
  refine ⟨a, cap, hv, h1, h2, h0, fun i x hx => ?_⟩
  obtain ⟨b, o, ha, hc⟩ := h3 i x hx
  exact ⟨b, o, ha, (hb.cell (p := ⟨b, o + i, none⟩) (World.block_lt_of_cell? w _ hc)).trans hc⟩

theorem Sl.drew {w : World} {v : Value} {n : Nat} {cs : List Value} (h : Sl w v n cs) : Sl w.drew v n cs := h

theorem Sl.nil (w : World) : Sl w (.slice none 0 0) 0 [] := ⟨none, 0, rfl, Nat.le_refl _, Nat.zero_le _, fun _ => rfl, fun i x h => by simp at h⟩

theorem ext_trans {a b c : World} (h : Below a.heap.size a b) (k : Below b.heap.size b c) : Below a.heap.size a c :=
  h.trans (k.mono h.size)

/-- What the call owns reads as its cells. -/
theorem Sl.ofOwn {w : World} {base e size n : Nat} {v : Value} {xs : List Value} (h : w.ownsRow base e size v n xs) : Sl w v n xs := by
  obtain ⟨h1, h2⟩ := h
  rcases h2 with ⟨rfl, rfl⟩ | ⟨g, cap, cur, rfl, hb, hg, hn, hm, hs, ht⟩
  · have : xs = [] := List.length_eq_zero_iff.1 (by omega)
    subst this; exact Sl.nil w
  · refine ⟨some ⟨g, 0, none⟩, cap, rfl, hn, hm, (fun h => by cases h), fun i x hx => ⟨g, 0, rfl, ?_⟩⟩
    rw [← ht] at hx
    have hi : i < (cur.toList.take (n * size)).length := (List.getElem?_eq_some_iff.1 hx).1
    simp only [List.length_take] at hi
    rw [List.getElem?_take_of_lt (by omega)] at hx
    simp only [World.cell?, hg, Nat.zero_add]
    simpa using hx

theorem add_spot (b o j : Nat) : (⟨b, o, none⟩ : Addr).add j = ⟨b, o + j, none⟩ := by
  unfold Addr.add; split
  · next h => subst h; rfl
  · rfl

/-- The source of an append, out of what it reads as. -/
theorem Sl.src {w : World} {x : Value} {m : Nat} {news : List Value} (h : Sl w x m news) :
    (x = .slice none 0 0 ∧ m = 0 ∧ news = []) ∨ ∃ ad c, x = .slice (some ad) m c ∧ ∀ j u, news[j]? = some u → w.cell? (ad.add j) = some u := by
  obtain ⟨a, cap, rfl, h1, h2, h0, h3⟩ := h
  cases a with
  | none =>
    left
    have := h0 rfl
    subst this
    refine ⟨by congr; omega, by omega, ?_⟩
    cases news with
    | nil => rfl
    | cons y l => obtain ⟨_, _, h, _⟩ := h3 0 y rfl; cases h
  | some ad =>
    right
    refine ⟨ad, cap, rfl, fun j u hu => ?_⟩
    obtain ⟨b, o, hb, hc⟩ := h3 j u hu
    cases hb
    rw [add_spot]; exact hc

/-- append onto a row of the call's own, grown where there is no room. -/
theorem wpList_append_sl {P : Program} {w : World} {ops : Array Oper} {rest : List Oper} {o : Oper} {a : Act} {Q : Exit → Act → World → Prop} (hgd : o.guard = none) (s x : Operand) (t : TypeId)
    (ho : o.op = .call { callee := .builtin .append, args := #[s, x], argTypes := #[t, t] })
    (base : Nat) (e : TypeId) {z : Value} {size bytes : Nat} (ht : P.underlying t = some (.slice e)) (hinfo : (P.info? e).map (fun i => (i.zero, i.size, i.bytes)) = some (some z, size, bytes))
    (hzs : z.cells.size = size) (hsz : 0 < size)
    {v : Value} {n : Nat} {xs : List Value} (hs : a.eval s = v) (hown : w.ownsRow base e size v n xs)
    {xv : Value} {m : Nat} {news : List Value} (hx : a.eval x = xv) (hsl : Sl w xv m news) (hl : news.length = m * size) (h1 : ∀ u ∈ news, u.oneCell' = true)
    (h63 : n + m ≤ maxLen) (hbytes : (n + m) * bytes ≤ 140737488355328) (hbase : base ≤ w.heap.size)
    (h : ∀ v' w', w'.ownsRow base e size v' (n + m) (xs ++ news) → w.grownBy w' v.ownBlock → (v' = .slice none 0 0 ↔ v = .slice none 0 0 ∧ m = 0) → wpList P ops Q rest (a.put o.dst v') w') : wpList P ops Q (o :: rest) a w := by
  obtain ⟨i, hi, hz0, hz1, hz2⟩ := info_parts hinfo
  rcases hsl.src with ⟨rfl, rfl, rfl⟩ | ⟨ad, c, rfl, hnews⟩
  · refine wpList_append_own_none hgd s x t ho base e i size ht hi _ n xs hs hown hx ?_
    exact h v w (by simpa using hown) (World.grownBy.refl w _) (by simp)
  · exact wpList_append_own w hgd s x t ho base e i z size bytes ht hi hz0 hz1 hz2 hzs hsz v n xs hs hown ad m c news hx hl hnews h1 h63 hbytes hbase h

/-- bytes as cells -/
def bcells (l : List UInt8) : List Value := l.map fun c => .int .u8 (c.toNat : Int)
theorem bcells_length (l : List UInt8) : (bcells l).length = l.length := by simp [bcells]
theorem bcells_append (l m : List UInt8) : bcells (l ++ m) = bcells l ++ bcells m := by simp [bcells]
theorem bcells_get (l : List UInt8) (i : Nat) (h : i < l.length) : (bcells l)[i]? = some (.int .u8 (l[i].toNat : Int)) := by simp [bcells, h]
/-- []byte(s): a new array that reads as the string. -/
theorem wpList_bytes_of_string {P : Program} {w : World} {ops : Array Oper} {rest : List Oper} {o : Oper} {a : Act} {Q : Exit → Act → World → Prop} (hgd : o.guard = none) (x : Operand) (src dst e : TypeId)
    (ho : o.op = .convert src dst x) (hs : P.underlying src = some .string) (hd : P.underlying dst = some (.slice e)) (he : P.underlying e = some (.int .u8))
    (s : ByteArray) (hx : a.eval x = .string s) (hsz : s.size ≤ maxLen)
    (h : ∀ cap w', Sl w' (.slice (some ⟨w.heap.size, 0, none⟩) s.size cap) s.size (bcells s.data.toList) → Below w.heap.size w w' → w'.heap.size = w.heap.size + 1 → wpList P ops Q rest (a.put o.dst (.slice (some ⟨w.heap.size, 0, none⟩) s.size cap)) w') : wpList P ops Q (o :: rest) a w := by
  refine wpList_plain hgd fun K hK => ?_
  have hr := Lib.run_convert_string_bytes (P := P) w src dst e s hs hd he
  unfold Oper.wp execOp
  simp only [ho, hx, Sem.run_bind, hr, Result.andThen_ok, Sem.run_pure]
  refine hK _ _ (h _ _ ⟨_, _, rfl, grownCap_ge _ _ _ _, grownCap_le_maxLen _ _ _ _ hsz, (fun h => by cases h), fun i x hx => ⟨_, _, rfl, ?_⟩⟩ ⟨?_, ?_, ?_, ?_, ?_⟩ (Lib.bytesWorld_size _ _ _))
  · have hi : i < s.data.toList.length := by have := (List.getElem?_eq_some_iff.1 hx).1; rwa [bcells_length] at this
    rw [bcells_get _ _ hi] at hx
    rw [Nat.zero_add, Lib.bytesWorld_cell _ _ _ _ (by simpa using hi)]
    rw [← hx, List.getD_eq_getElem?_getD, List.getElem?_eq_getElem hi]; rfl
  · simp [Lib.bytesWorld, World.freeze]; rfl
  · simp [Lib.bytesWorld, World.freeze]
  · simp [Lib.bytesWorld, World.freeze]; rfl
  · rw [Lib.bytesWorld_size]; omega
  · exact fun k hk => Lib.bytesWorld_at_old _ _ _ _ hk

theorem take_snoc (s : ByteArray) (k : Nat) (h : k < s.size) : s.data.toList.take (k + 1) = s.data.toList.take k ++ [s[k]] := by
  rw [List.take_succ_eq_append_getElem (by simpa using h)]; rfl

/-- A block that reads as an array of cells. -/
def Box (W : World) (b : Nat) (A : Array Value) : Prop := b < W.heap.size ∧ ∀ j, W.cell? ⟨b, j, none⟩ = A[j]?
theorem Box.ext {W W' : World} {b : Nat} {A : Array Value} (h : Box W b A) (hb : Below W.heap.size W W') : Box W' b A :=
  ⟨Nat.lt_of_lt_of_le h.1 hb.size, fun j => (hb.cell (p := ⟨b, j, none⟩) h.1).trans (h.2 j)⟩
theorem Box.new (w : World) (A : Array Value) (t : TypeId) : Box (w.alloc (.cells A t)) w.heap.size A := ⟨by simp, fun j => by simp⟩

/-- A struct parameter's block, and from here on the world under a name. -/
theorem wp_box1 {P : Program} {c : Code} {Q : Exit → Act → World → Prop} {a : Act} {w : World} {A : Array Value} {t : TypeId}
    (h : ∀ W, W.heap.size = w.heap.size + 1 → Below w.heap.size w W → Box W w.heap.size A → c.wp P Q a W) : c.wp P Q a (w.alloc (.cells A t)) :=
  h _ (by simp) ((Below.refl _ _).alloc (Nat.le_refl _) _) (Box.new _ _ _)
theorem wp_box2 {P : Program} {c : Code} {Q : Exit → Act → World → Prop} {a : Act} {w : World} {A B : Array Value} {t u : TypeId}
    (h : ∀ W, W.heap.size = w.heap.size + 2 → Below w.heap.size w W → Box W w.heap.size A → Box W (w.heap.size + 1) B → c.wp P Q a W) : c.wp P Q a ((w.alloc (.cells A t)).alloc (.cells B u)) := by
  refine h _ (by simp) (by go_grown) ((Box.new _ _ _).ext (by go_grown)) ?_
  have := Box.new (w.alloc (.cells A t)) B u
  simpa using this
/-- What a region that draws its order holds on to: the world is an extension of W, and two blocks read as they did. -/
abbrev S2 (W : World) (b1 : Nat) (A1 : Array Value) (b2 : Nat) (A2 : Array Value) (w' : World) : Prop :=
  Below W.heap.size W w' ∧ (∀ j, w'.cell? ⟨b1, j, none⟩ = A1[j]?) ∧ (∀ j, w'.cell? ⟨b2, j, none⟩ = A2[j]?)
theorem S2.start {W : World} {b1 : Nat} {A1 : Array Value} {b2 : Nat} {A2 : Array Value} (h1 : Box W b1 A1) (h2 : Box W b2 A2) : S2 W b1 A1 b2 A2 W.drew :=
  ⟨(Below.refl _ _).drew, h1.2, h2.2⟩
theorem S2.base {W w' : World} {b1 : Nat} {A1 : Array Value} {b2 : Nat} {A2 : Array Value} (h : S2 W b1 A1 b2 A2 w') : Below W.heap.size W w' := h.1
theorem S2.ext {W w1 w2 : World} {b1 : Nat} {A1 : Array Value} {b2 : Nat} {A2 : Array Value} (hb : Below w1.heap.size w1 w2) (h : S2 W b1 A1 b2 A2 w1) (h1 : Box W b1 A1) (h2 : Box W b2 A2) : S2 W b1 A1 b2 A2 w2 :=
  ⟨ext_trans h.1 hb, fun j => (hb.cell (p := ⟨b1, j, none⟩) (Nat.lt_of_lt_of_le h1.1 h.1.size)).trans (h.2.1 j), fun j => (hb.cell (p := ⟨b2, j, none⟩) (Nat.lt_of_lt_of_le h2.1 h.1.size)).trans (h.2.2 j)⟩

theorem ret_int {k : IntKind} {a b : Int} (h : a = b) : Ending.returned (.int k a) = .returned (.int k b) := by rw [h]

/-- a number of 64 bits -/
def i64ok (n : Int) : Prop := -9223372036854775808 ≤ n ∧ n ≤ 9223372036854775807
theorem zz1 {α : Type} {l : List α} {i : Nat} : l.toArray[i]? = l[i]? := List.getElem?_toArray
theorem zz2 {α : Type} {a : α} {l : List α} {i : Nat} : (a :: l)[i + 1]? = l[i]? := List.getElem?_cons_succ
theorem zz3 {α : Type} {a : α} {l : List α} : (a :: l)[0]? = some a := List.getElem?_cons_zero
theorem zz4 {α β : Type} (a : α) (f : α → Option β) : (some a).bind f = f a := rfl
theorem zz5 {α : Type} {l : List α} {i : Nat} {a : α} : l.toArray.setIfInBounds i a = (l.set i a).toArray := List.setIfInBounds_toArray l i a
theorem zz6 {α : Type} {x : α} {l : List α} {n : Nat} {a : α} : (x :: l).set (n + 1) a = x :: l.set n a := List.set_cons_succ
theorem zz7 {α : Type} {x : α} {l : List α} {a : α} : (x :: l).set 0 a = a :: l := List.set_cons_zero
theorem zzc {w w' : World} (hb : Below w.heap.size w w') {p : Addr} {v : Value} (h : w.cell? p = some v) : w'.cell? p = some v := (hb.cell (World.block_lt_of_cell? _ _ h)).trans h
end Go.Proofs.YtiieckboccbhhaaGreatDoor
namespace Go.Proofs.YtiieckboccbhhaaGreatDoor
open Go.RowKit

/-- A list of things, each of which lies in some cells, one behind the other. -/
def Reps {α : Type} (R : α → List Value → Prop) : List α → List Value → Prop
  | [], cs => cs = []
  | x :: xs, cs => ∃ c r, cs = c ++ r ∧ R x c ∧ Reps R xs r

theorem Reps.mono {α : Type} {R R' : α → List Value → Prop} (h : ∀ x c, R x c → R' x c) : ∀ {l : List α} {cs : List Value}, Reps R l cs → Reps R' l cs
  | [], _, hr => hr
  | _ :: _, _, ⟨c, r, e, h1, h2⟩ => ⟨c, r, e, h _ _ h1, Reps.mono h h2⟩
theorem Reps.length {α : Type} {R : α → List Value → Prop} {sz : Nat} (hs : ∀ x c, R x c → c.length = sz) : ∀ {l : List α} {cs : List Value}, Reps R l cs → cs.length = l.length * sz
  | [], _, hr => by cases hr; simp
  | _ :: l, _, ⟨c, r, e, h1, h2⟩ => by
    subst e
    rw [List.length_append, hs _ _ h1, Reps.length hs h2, List.length_cons, Nat.add_mul]
    omega
theorem Reps.get {α : Type} {R : α → List Value → Prop} {sz : Nat} (hs : ∀ x c, R x c → c.length = sz) : ∀ {l : List α} {cs : List Value} {i : Nat} {x : α}, Reps R l cs → l[i]? = some x → ∃ c, R x c ∧ ∀ j u, c[j]? = some u → cs[i * sz + j]? = some u
  | [], _, _, _, _, hx => by simp at hx
  | y :: l, cs, 0, x, h, hx => by
    obtain ⟨c, r, rfl, h1, h2⟩ := h
    obtain rfl : y = x := by simpa using hx
    refine ⟨c, h1, fun j u hu => ?_⟩
    rw [Nat.zero_mul, Nat.zero_add, List.getElem?_append_left (List.getElem?_eq_some_iff.1 hu).1]; exact hu
  | y :: l, cs, i + 1, x, h, hx => by
    obtain ⟨c, r, rfl, h1, h2⟩ := h
    obtain ⟨c', h3, h4⟩ := Reps.get hs h2 (by simpa using hx)
    refine ⟨c', h3, fun j u hu => ?_⟩
    have hl := hs _ _ h1
    have e : (i + 1) * sz + j = c.length + (i * sz + j) := by rw [hl, Nat.add_mul]; omega
    rw [e, List.getElem?_append_right (by omega), ← h4 j u hu]
    congr 1; omega

/-- A value of more cells than one is an aggregate of them. -/
theorem agg_of_cells {v : Value} (h : v.cells.toList.length ≠ 1) : v = .agg v.cells.toList.toArray := by
  cases v <;> simp_all [Value.cells]
theorem uncons {l : List Value} {n : Nat} (h : l.length = n + 1) : ∃ c r, l = c :: r ∧ r.length = n := by
  cases l with
  | nil => cases h
  | cons c r => exact ⟨c, r, rfl, by simpa using h⟩
end Go.Proofs.YtiieckboccbhhaaGreatDoor
namespace Go.Proofs.YtiieckboccbhhaaGreatDoor
open Go.RowKit
theorem read_Ratio {H : Type} {enc : TypeId × Value → H} {W : World} {spare : Nat → Bool} {held : Bool} (fuel : Nat) (cs : List Value) (x : DataW H × List MemPlace) (h : DataW.trod enc Tryz.prog W 0 spare held fuel 23 cs = some x) :
    ∃ (x0 : ByteArray) (x1 : ByteArray), cs = [.string x0, .string x1] ∧ x0.size ≤ maxLen ∧ x1.size ≤ maxLen := by
  obtain ⟨xs, n, rfl, _, hlen, hxl, hf⟩ := DataW.trod_struct Tryz.underlying23 h
  rw [show Tryz.prog.cellsOf 23 = 2 by kernel_rfl] at hlen
  obtain ⟨c0, r0, rfl, l0⟩ := uncons hlen
  obtain ⟨c1, r1, rfl, l1⟩ := uncons l0
  obtain rfl := List.length_eq_zero_iff.1 l1
  have hx : ∀ i, i < 2 → ∃ y, xs[i]? = some y := fun i hi => ⟨_, List.getElem?_eq_getElem (by rw [hxl]; exact hi)⟩
  have f0 : DataW.trod enc Tryz.prog W 0 spare held n 9 (List.take (Tryz.prog.cellsOf 9) (List.drop 0 [c0, c1])) = xs[0]? := hf 0 _ rfl
  rw [show Tryz.prog.cellsOf 9 = 1 by kernel_rfl] at f0
  simp only [List.drop, List.take] at f0
  obtain ⟨y0, e0⟩ := hx 0 (by omega)
  rw [e0] at f0
  obtain ⟨x0, h0, _, w0⟩ := DataW.trod_string Tryz.underlying9 f0
  have f1 : DataW.trod enc Tryz.prog W 0 spare held n 9 (List.take (Tryz.prog.cellsOf 9) (List.drop 1 [c0, c1])) = xs[1]? := hf 1 _ rfl
  rw [show Tryz.prog.cellsOf 9 = 1 by kernel_rfl] at f1
  simp only [List.drop, List.take] at f1
  obtain ⟨y1, e1⟩ := hx 1 (by omega)
  rw [e1] at f1
  obtain ⟨x1, h1, _, w1⟩ := DataW.trod_string Tryz.underlying9 f1
  cases h0
  cases h1
  exact ⟨x0, x1, rfl, w0, w1⟩
end Go.Proofs.YtiieckboccbhhaaGreatDoor
namespace Go.Proofs.YtiieckboccbhhaaGreatDoor
namespace Nm
/-- ways to chooseN k of n -/
def chooseN : Nat → Nat → Nat
  | _, 0 => 1
  | 0, _ + 1 => 0
  | n + 1, k + 1 => chooseN n k + chooseN n (k + 1)
theorem chooseN_zero (n : Nat) : chooseN n 0 = 1 := by cases n <;> rfl
theorem chooseN_past : ∀ n k, n < k → chooseN n k = 0
  | 0, k + 1, _ => rfl
  | n + 1, k + 1, h => by
    show chooseN n k + chooseN n (k + 1) = 0
    rw [chooseN_past n k (by omega), chooseN_past n (k + 1) (by omega)]
theorem chooseN_self : ∀ n, chooseN n n = 1
  | 0 => rfl
  | n + 1 => by
    show chooseN n n + chooseN n (n + 1) = 1
    rw [chooseN_self n, chooseN_past n (n + 1) (by omega)]
/-- from one to the next -/
theorem chooseN_next : ∀ n k, k ≤ n → (k + 1) * chooseN n (k + 1) = (n - k) * chooseN n k
  | n, 0, _ => by
    rw [chooseN_zero]
    induction n with
    | zero => rfl
    | succ n ih =>
      show (0 + 1) * (chooseN n 0 + chooseN n 1) = (n + 1 - 0) * 1
      rw [chooseN_zero]
      simp at ih ⊢; omega
  | 0, k + 1, h => by omega
  | n + 1, k + 1, h => by
    show (k + 1 + 1) * (chooseN n (k + 1) + chooseN n (k + 2)) = (n + 1 - (k + 1)) * (chooseN n k + chooseN n (k + 1))
    have h1 := chooseN_next n k (by omega)
    by_cases hk : k + 1 ≤ n
    · have h2 := chooseN_next n (k + 1) hk
      obtain ⟨m, rfl⟩ : ∃ m, n = m + (k + 1) := ⟨n - (k + 1), by omega⟩
      have e1 : m + (k + 1) - k = m + 1 := by omega
      have e2 : m + (k + 1) - (k + 1) = m := by omega
      have e3 : m + (k + 1) + 1 - (k + 1) = m + 1 := by omega
      rw [e1] at h1
      rw [e2] at h2
      rw [e3]
      generalize chooseN (m + (k + 1)) (k + 2) = z at *
      generalize chooseN (m + (k + 1)) (k + 1) = y at *
      generalize chooseN (m + (k + 1)) k = x at *
      have h2' : (k + 1 + 1) * z = m * y := h2
      grind
    · have hn : n = k := by omega
      subst hn
      rw [chooseN_past n (n + 1) (by omega), chooseN_past n (n + 2) (by omega)]
      have : n + 1 - (n + 1) = 0 := by omega
      rw [this]; simp
theorem chooseN_le : ∀ n k, chooseN n k ≤ 2 ^ n
  | n, 0 => by rw [chooseN_zero]; exact Nat.one_le_two_pow
  | 0, k + 1 => by show 0 ≤ _; omega
  | n + 1, k + 1 => by
    show chooseN n k + chooseN n (k + 1) ≤ _
    have h1 := chooseN_le n k
    have h2 := chooseN_le n (k + 1)
    rw [Nat.pow_succ]; omega
/-- a sum over the numbers below m -/
def sumR (f : Nat → Rat) : Nat → Rat
  | 0 => 0
  | m + 1 => sumR f m + f m
/-- a term of the sum -/
def binT (a b : Rat) (n j : Nat) : Rat := ((chooseN n j : Nat) : Rat) * (a ^ j * b ^ (n - j))
theorem binom_part (a b : Rat) (n : Nat) : ∀ m, m ≤ n → sumR (binT a b (n + 1)) (m + 1) = (a + b) * sumR (binT a b n) m + ((chooseN n m : Nat) : Rat) * (a ^ m * b ^ (n + 1 - m))
  | 0, _ => by
    show 0 + binT a b (n + 1) 0 = (a + b) * 0 + _
    unfold binT
    rw [chooseN_zero, chooseN_zero]
    grind
  | m + 1, hm => by
    have ih := binom_part a b n m (by omega)
    show sumR (binT a b (n + 1)) (m + 1) + binT a b (n + 1) (m + 1) = (a + b) * (sumR (binT a b n) m + binT a b n m) + _
    rw [ih]
    unfold binT
    have e1 : n + 1 - m = (n - m) + 1 := by omega
    have e2 : n + 1 - (m + 1) = n - m := by omega
    have e3 : chooseN (n + 1) (m + 1) = chooseN n m + chooseN n (m + 1) := rfl
    rw [e1, e2, e3, Rat.natCast_add, Rat.pow_succ, Rat.pow_succ]
    grind
theorem binom (a b : Rat) : ∀ n, sumR (binT a b n) (n + 1) = (a + b) ^ n
  | 0 => by
    show 0 + binT a b 0 0 = _
    unfold binT
    have e : 0 - 0 = 0 := rfl
    rw [chooseN_zero, e, Rat.pow_zero, Rat.pow_zero, Rat.pow_zero]
    grind
  | n + 1 => by
    have ih := binom a b n
    have h := binom_part a b n n (Nat.le_refl _)
    show sumR (binT a b (n + 1)) (n + 1) + binT a b (n + 1) (n + 1) = _
    rw [h]
    have ih' : sumR (binT a b n) n + binT a b n n = (a + b) ^ n := ih
    rw [Rat.pow_succ, ← ih']
    unfold binT
    rw [chooseN_self, chooseN_self]
    have e1 : n + 1 - n = 1 := by omega
    have e2 : n + 1 - (n + 1) = 0 := by omega
    have e3 : n - n = 0 := by omega
    rw [e1, e2, e3, Rat.pow_succ, Rat.pow_zero]
    grind
end Nm
end Go.Proofs.YtiieckboccbhhaaGreatDoor
namespace Go.Proofs.YtiieckboccbhhaaGreatDoor
namespace Nm
/-- a step of the product that gives the ways to choose -/
theorem choose_step (a i : Nat) : chooseN (a + i) i * (a + i + 1) = chooseN (a + i + 1) (i + 1) * (i + 1) := by
  have h1 : chooseN (a + i + 1) (i + 1) = chooseN (a + i) i + chooseN (a + i) (i + 1) := rfl
  have h2 := chooseN_next (a + i) i (by omega)
  rw [show a + i - i = a by omega] at h2
  rw [h1, Nat.add_mul, Nat.mul_comm (chooseN (a + i) (i + 1)), h2, Nat.mul_comm a, ← Nat.mul_add, show i + 1 + a = a + i + 1 by omega]
theorem choose_div (a i : Nat) : chooseN (a + i) i * (a + i + 1) / (i + 1) = chooseN (a + i + 1) (i + 1) := by rw [choose_step]; exact Nat.mul_div_cancel _ (by omega)
/-- so many of the 1000 ^ n ways have fewer than k successes -/
def tailN (n m : Nat) : Nat → Nat
  | 0 => 0
  | k + 1 => tailN n m k + chooseN n k * m ^ k * (1000 - m) ^ (n - k)
def tailQ (n m k : Nat) : Rat := ((tailN n m k : Nat) : Rat) / ((1000 ^ n : Nat) : Rat)
theorem tailN_mono (n m : Nat) : ∀ {i j : Nat}, i ≤ j → tailN n m i ≤ tailN n m j
  | i, 0, h => by rw [Nat.le_zero.1 h]; exact Nat.le_refl _
  | i, j + 1, h => by
    by_cases e : i = j + 1
    · rw [e]; exact Nat.le_refl _
    · exact Nat.le_trans (tailN_mono n m (show i ≤ j by omega)) (Nat.le_add_right _ _)
theorem tailN_sum (n m : Nat) (hm : m ≤ 1000) : ∀ k, ((tailN n m k : Nat) : Rat) = sumR (binT ((m : Nat) : Rat) (((1000 - m : Nat)) : Rat) n) k
  | 0 => rfl
  | k + 1 => by
    have ih := tailN_sum n m hm k
    show ((tailN n m k + chooseN n k * m ^ k * (1000 - m) ^ (n - k) : Nat) : Rat) = sumR _ k + binT _ _ n k
    rw [Rat.natCast_add, ih]
    unfold binT
    rw [Rat.natCast_mul, Rat.natCast_mul, Rat.natCast_pow, Rat.natCast_pow, Rat.mul_assoc]
theorem tailN_all (n m : Nat) (hm : m ≤ 1000) : tailN n m (n + 1) = 1000 ^ n := by
  have h := tailN_sum n m hm (n + 1)
  rw [binom, ← Rat.natCast_add, show m + (1000 - m) = 1000 by omega, ← Rat.natCast_pow] at h
  exact Rat.natCast_inj.1 h
theorem tailN_le (n m : Nat) (hm : m ≤ 1000) {k : Nat} (hk : k ≤ n + 1) : tailN n m k ≤ 1000 ^ n := by
  rw [← tailN_all n m hm]; exact tailN_mono n m hk
theorem pow_ne (n : Nat) : ((1000 ^ n : Nat) : Rat) ≠ 0 := by
  have h : (1000 ^ n : Nat) ≠ 0 := by have := Nat.pow_pos (n := n) (show 0 < 1000 by decide); omega
  exact fun e => h (Rat.natCast_inj.1 (by simpa using e))
theorem pow_pos' (n : Nat) : (0 : Rat) < ((1000 ^ n : Nat) : Rat) := by
  have h : 0 < (1000 ^ n : Nat) := Nat.pow_pos (by decide)
  have := Rat.natCast_lt_natCast.2 h
  simpa using this
theorem tailQ_zero (n m : Nat) : tailQ n m 0 = 0 := by unfold tailQ tailN; rw [Rat.div_def, show ((0 : Nat) : Rat) = 0 from rfl, Rat.zero_mul]
theorem tailQ_all (n m : Nat) (hm : m ≤ 1000) : tailQ n m (n + 1) = 1 := by
  unfold tailQ; rw [tailN_all n m hm]; rw [Rat.div_def]; exact Rat.mul_inv_cancel _ (pow_ne n)
theorem tailQ_mono (n m : Nat) {i j : Nat} (h : i ≤ j) : tailQ n m i ≤ tailQ n m j := by
  have h1 : ((tailN n m i : Nat) : Rat) ≤ ((tailN n m j : Nat) : Rat) := Rat.natCast_le_natCast.2 (tailN_mono n m h)
  have h2 := pow_pos' n
  unfold tailQ
  rw [Rat.div_def, Rat.div_def]
  exact Rat.mul_le_mul_of_nonneg_right h1 (Rat.le_of_lt (Rat.inv_pos.2 h2))
/-- the greatest k from 1 to j whose tail is at most h, or 0 -/
def lowV (n m : Nat) (h : Rat) : Nat → Nat
  | 0 => 0
  | j + 1 => if tailQ n m (j + 1) ≤ h then j + 1 else lowV n m h j
/-- counting up finds the same -/
theorem lowV_up (n m : Nat) (h : Rat) : ∀ {k j : Nat}, k ≤ j → (∀ i, 1 ≤ i → i ≤ k → tailQ n m i ≤ h) → (k = j ∨ ¬ tailQ n m (k + 1) ≤ h) → lowV n m h j = k
  | k, 0, hk, _, _ => by rw [Nat.le_zero.1 hk]; rfl
  | k, j + 1, hk, hl, hs => by
    unfold lowV
    by_cases e : k = j + 1
    · rw [if_pos (by rw [← e]; exact hl k (by omega) (Nat.le_refl _)), e]
    · have hn : ¬ tailQ n m (k + 1) ≤ h := hs.resolve_left e
      have hj : ¬ tailQ n m (j + 1) ≤ h := fun hj => hn (Rat.le_trans (tailQ_mono n m (show k + 1 ≤ j + 1 by omega)) hj)
      rw [if_neg hj]
      exact lowV_up n m h (by omega) hl (.inr hn)
/-- the least k from 1 to j whose tail is at least g, or d -/
def highV (n m : Nat) (g : Rat) (d : Nat) : Nat → Nat
  | 0 => d
  | j + 1 => highV n m g (if g ≤ tailQ n m (j + 1) then j + 1 else d) j
theorem highV_up (n m : Nat) (g : Rat) : ∀ {d j k : Nat}, 1 ≤ k → (∀ i, 1 ≤ i → i < k → ¬ g ≤ tailQ n m i) → (k ≤ j → g ≤ tailQ n m k) → (j < k → d = k) → highV n m g d j = k
  | d, 0, k, h1, _, _, hd => hd (by omega)
  | d, j + 1, k, h1, hl, hk, hd => by
    unfold highV
    refine highV_up n m g h1 hl (fun h => hk (by omega)) (fun h => ?_)
    by_cases e : k = j + 1
    · rw [if_pos (by rw [← e]; exact hk (by omega)), e]
    · have hj : j + 1 < k := by omega
      rw [if_neg (hl (j + 1) (by omega) hj)]; exact hd hj
/-- the ranks of a quantile -/
def loR (n m : Nat) (q : Rat) : Nat := lowV n m (q / 2) n
def hiR (n m : Nat) (q : Rat) : Nat := highV n m (1 - q / 2) (n + 1) n
end Nm
end Go.Proofs.YtiieckboccbhhaaGreatDoor
