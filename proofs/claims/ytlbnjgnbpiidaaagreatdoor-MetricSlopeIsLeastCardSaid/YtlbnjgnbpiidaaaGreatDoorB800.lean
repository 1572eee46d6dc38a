/- Words for slices that are read and small facts on worlds, for all walks of this seat: no program stands in it. What a region that draws its order holds on to, where it ends in a store into a block of the call's own. No program stands in it. Numbers as lists of words of 32 bits, the least one first: plain mathematics, no program stands in it. -/
import Derived.WalkKit
import Derived.WalkSpells
import Derived.WalkLawsBesides
import Derived.Handy
import Derived.Lib.Hide
import Derived.Lib.ConvBytes
import Derived.Deep.DeepAppendRoom
import Derived.Laws.AppendOwnNone
import Derived.Deep.RegionHeld3
namespace Go.Proofs.YtlbnjgnbpiidaaaGreatDoor
open Go.RowKit

/-- The slice value v has n elements, and reads as the cells cs. -/
def Sl (w : World) (v : Value) (n : Nat) (cs : List Value) : Prop :=
  ∃ (a : Option Addr) (cap : Nat), v = .slice a n cap ∧ n ≤ cap ∧ cap ≤ maxLen ∧ (a = none → cap = 0) ∧ ∀ i x, cs[i]? = some x → ∃ b o, a = some ⟨b, o, none⟩ ∧ w.cell? ⟨b, o + i, none⟩ = some x

theorem Sl.ext {w w' : World} {v : Value} {n : Nat} {cs : List Value} (h : Sl w v n cs) (hb : Below w.heap.size w w') : Sl w' v n cs := by
  obtain ⟨a, cap, hv, h1, h2, h0, h3⟩ := h
  refine ⟨a, cap, hv, h1, h2, h0, fun i x hx => ?_⟩
  obtain ⟨b, o, ha, hc⟩ := h3 i x hx
  exact ⟨b, o, ha, (hb.cell (p := ⟨b, o + i, none⟩) (World.block_lt_of_cell? w _ hc)).trans hc⟩

theorem Sl.drew {w : World} {v : Value} {n : Nat} {cs : List Value} (h : Sl w v n cs) : Sl w.drew v n cs := h

theorem Sl.nil (w : World) : Sl w (.slice none 0 0) 0 [] := ⟨none, 0, rfl, Nat.le_refl _, Nat.zero_le _, fun _ => rfl, fun i x h => by simp at h⟩

theorem ext_trans {a b c : World} (h : Below a.heap.size a b) (k : Below b.heap.size b c) : Below a.heap.size a c :=
  h.trans (k.mono h.size)

/-- What the call owns reads as its cells. -/
theorem Sl.ofOwn {w : World} {base e size n : Nat} {v : Value} {xs : List Value} (h : w.ownsRow base e size v n xs) : Sl w v n xs := by
  obtain ⟨h1, h2⟩ := h
  rcases h2 with ⟨rfl, rfl⟩ | ⟨g, cap, cur, rfl, hb, hg, hn, hm, hs, ht⟩
  · have : xs = [] := List.length_eq_zero_iff.1 (by omega)
    subst this; exact Sl.nil w
  · refine ⟨some ⟨g, 0, none⟩, cap, rfl, hn, hm, (fun h => by cases h), fun i x hx => ⟨g, 0, rfl, ?_⟩⟩
    rw [← ht] at hx
    have hi : i < (cur.toList.take (n * size)).length := (List.getElem?_eq_some_iff.1 hx).1
    simp only [List.length_take] at hi
    rw [List.getElem?_take_of_lt (by omega)] at hx
    simp only [World.cell?, hg, Nat.zero_add]
    simpa using hx

theorem add_spot (b o j : Nat) : (⟨b, o, none⟩ : Addr).add j = ⟨b, o + j, none⟩ := by
  unfold Addr.add; split
  · next h => subst h; rfl
  · rfl

/-- The source of an append, out of what it reads as. -/
theorem Sl.src {w : World} {x : Value} {m : Nat} {news : List Value} (h : Sl w x m news) :
    (x = .slice none 0 0 ∧ m = 0 ∧ news = []) ∨ ∃ ad c, x = .slice (some ad) m c ∧ ∀ j u, news[j]? = some u → w.cell? (ad.add j) = some u := by
  obtain ⟨a, cap, rfl, h1, h2, h0, h3⟩ := h
  cases a with
  | none =>
    left
    have := h0 rfl
    subst this
    refine ⟨by congr; omega, by omega, ?_⟩
    cases news with
    | nil => rfl
    | cons y l => obtain ⟨_, _, h, _⟩ := h3 0 y rfl; cases h
  | some ad =>
    right
    refine ⟨ad, cap, rfl, fun j u hu => ?_⟩
    obtain ⟨b, o, hb, hc⟩ := h3 j u hu
    cases hb
    rw [add_spot]; exact hc

/-- append onto a row of the call's own, grown where there is no room. -/
theorem wpList_append_sl {P : Program} {w : World} {ops : Array Oper} {rest : List Oper} {o : Oper} {a : Act} {Q : Exit → Act → World → Prop} (hgd : o.guard = none) (s x : Operand) (t : TypeId)
    (ho : o.op = .call { callee := .builtin .append, args := #[s, x], argTypes := #[t, t] })
    (base : Nat) (e : TypeId) {z : Value} {size bytes : Nat} (ht : P.underlying t = some (.slice e)) (hinfo : (P.info? e).map (fun i => (i.zero, i.size, i.bytes)) = some (some z, size, bytes))
    (hzs : z.cells.size = size) (hsz : 0 < size)
    {v : Value} {n : Nat} {xs : List Value} (hs : a.eval s = v) (hown : w.ownsRow base e size v n xs)
    {xv : Value} {m : Nat} {news : List Value} (hx : a.eval x = xv) (hsl : Sl w xv m news) (hl : news.length = m * size) (h1 : ∀ u ∈ news, u.oneCell' = true)
    (h63 : n + m ≤ maxLen) (hbytes : (n + m) * bytes ≤ 140737488355328) (hbase : base ≤ w.heap.size)
    (h : ∀ v' w', w'.ownsRow base e size v' (n + m) (xs ++ news) → w.grownBy w' v.ownBlock → (v' = .slice none 0 0 ↔ v = .slice none 0 0 ∧ m = 0) → wpList P ops Q rest (a.put o.dst v') w') : wpList P ops Q (o :: rest) a w := by
  obtain ⟨i, hi, hz0, hz1, hz2⟩ := info_parts hinfo
  rcases hsl.src with ⟨rfl, rfl, rfl⟩ | ⟨ad, c, rfl, hnews⟩
  · refine wpList_append_own_none hgd s x t ho base e i size ht hi _ n xs hs hown hx ?_
    exact h v w (by simpa using hown) (World.grownBy.refl w _) (by simp)
  · exact wpList_append_own w hgd s x t ho base e i z size bytes ht hi hz0 hz1 hz2 hzs hsz v n xs hs hown ad m c news hx hl hnews h1 h63 hbytes hbase h

/-- bytes as cells -/
def bcells (l : List UInt8) : List Value := l.map fun c => .int .u8 (c.toNat : Int)
theorem bcells_length (l : List UInt8) : (bcells l).length = l.length := by simp [bcells]
theorem bcells_append (l m : List UInt8) : bcells (l ++ m) = bcells l ++ bcells m := by simp [bcells]
theorem bcells_get (l : List UInt8) (i : Nat) (h : i < l.length) : (bcells l)[i]? = some (.int .u8 (l[i].toNat : Int)) := by simp [bcells, h]
theorem bcells_one (l : List UInt8) : ∀ u ∈ bcells l, u.oneCell' = true := by
  intro u hu; simp only [bcells, List.mem_map] at hu; obtain ⟨c, _, rfl⟩ := hu; rfl

/-- []byte(s): a new array that reads as the string. -/
theorem wpList_bytes_of_string {P : Program} {w : World} {ops : Array Oper} {rest : List Oper} {o : Oper} {a : Act} {Q : Exit → Act → World → Prop} (hgd : o.guard = none) (x : Operand) (src dst e : TypeId)
    (ho : o.op = .convert src dst x) (hs : P.underlying src = some .string) (hd : P.underlying dst = some (.slice e)) (he : P.underlying e = some (.int .u8))
    (s : ByteArray) (hx : a.eval x = .string s) (hsz : s.size ≤ maxLen)
    (h : ∀ cap w', Sl w' (.slice (some ⟨w.heap.size, 0, none⟩) s.size cap) s.size (bcells s.data.toList) → Below w.heap.size w w' → w'.heap.size = w.heap.size + 1 → wpList P ops Q rest (a.put o.dst (.slice (some ⟨w.heap.size, 0, none⟩) s.size cap)) w') : wpList P ops Q (o :: rest) a w := by
  refine wpList_plain hgd fun K hK => ?_
  have hr := Lib.run_convert_string_bytes (P := P) w src dst e s hs hd he
  unfold Oper.wp execOp
  simp only [ho, hx, Sem.run_bind, hr, Result.andThen_ok, Sem.run_pure]
  refine hK _ _ (h _ _ ⟨_, _, rfl, grownCap_ge _ _ _ _, grownCap_le_maxLen _ _ _ _ hsz, (fun h => by cases h), fun i x hx => ⟨_, _, rfl, ?_⟩⟩ ⟨?_, ?_, ?_, ?_, ?_⟩ (Lib.bytesWorld_size _ _ _))
  · have hi : i < s.data.toList.length := by have := (List.getElem?_eq_some_iff.1 hx).1; rwa [bcells_length] at this
    rw [bcells_get _ _ hi] at hx
    rw [Nat.zero_add, Lib.bytesWorld_cell _ _ _ _ (by simpa using hi)]
    rw [← hx, List.getD_eq_getElem?_getD, List.getElem?_eq_getElem hi]; rfl
  · simp [Lib.bytesWorld, World.freeze]; rfl
  · simp [Lib.bytesWorld, World.freeze]
  · simp [Lib.bytesWorld, World.freeze]; rfl
  · rw [Lib.bytesWorld_size]; omega
  · exact fun k hk => Lib.bytesWorld_at_old _ _ _ _ hk

theorem take_snoc (s : ByteArray) (k : Nat) (h : k < s.size) : s.data.toList.take (k + 1) = s.data.toList.take k ++ [s[k]] := by
  rw [List.take_succ_eq_append_getElem (by simpa using h)]; rfl

/-- A block that reads as an array of cells. -/
def Box (W : World) (b : Nat) (A : Array Value) : Prop := b < W.heap.size ∧ ∀ j, W.cell? ⟨b, j, none⟩ = A[j]?
theorem Box.ext {W W' : World} {b : Nat} {A : Array Value} (h : Box W b A) (hb : Below W.heap.size W W') : Box W' b A :=
  ⟨Nat.lt_of_lt_of_le h.1 hb.size, fun j => (hb.cell (p := ⟨b, j, none⟩) h.1).trans (h.2 j)⟩
theorem Box.new (w : World) (A : Array Value) (t : TypeId) : Box (w.alloc (.cells A t)) w.heap.size A := ⟨by simp, fun j => by simp⟩

/-- A struct parameter's block, and from here on the world under a name. -/
theorem wp_box1 {P : Program} {c : Code} {Q : Exit → Act → World → Prop} {a : Act} {w : World} {A : Array Value} {t : TypeId}
    (h : ∀ W, W.heap.size = w.heap.size + 1 → Below w.heap.size w W → Box W w.heap.size A → c.wp P Q a W) : c.wp P Q a (w.alloc (.cells A t)) :=
  h _ (by simp) ((Below.refl _ _).alloc (Nat.le_refl _) _) (Box.new _ _ _)
theorem wp_box2 {P : Program} {c : Code} {Q : Exit → Act → World → Prop} {a : Act} {w : World} {A B : Array Value} {t u : TypeId}
    (h : ∀ W, W.heap.size = w.heap.size + 2 → Below w.heap.size w W → Box W w.heap.size A → Box W (w.heap.size + 1) B → c.wp P Q a W) : c.wp P Q a ((w.alloc (.cells A t)).alloc (.cells B u)) := by
  refine h _ (by simp) (by go_grown) ((Box.new _ _ _).ext (by go_grown)) ?_
  have := Box.new (w.alloc (.cells A t)) B u
  simpa using this
/-- What a region that draws its order holds on to: the world is an extension of W, and two blocks read as they did. -/
abbrev S2 (W : World) (b1 : Nat) (A1 : Array Value) (b2 : Nat) (A2 : Array Value) (w' : World) : Prop :=
  Below W.heap.size W w' ∧ (∀ j, w'.cell? ⟨b1, j, none⟩ = A1[j]?) ∧ (∀ j, w'.cell? ⟨b2, j, none⟩ = A2[j]?)
theorem S2.start {W : World} {b1 : Nat} {A1 : Array Value} {b2 : Nat} {A2 : Array Value} (h1 : Box W b1 A1) (h2 : Box W b2 A2) : S2 W b1 A1 b2 A2 W.drew :=
  ⟨(Below.refl _ _).drew, h1.2, h2.2⟩
theorem S2.base {W w' : World} {b1 : Nat} {A1 : Array Value} {b2 : Nat} {A2 : Array Value} (h : S2 W b1 A1 b2 A2 w') : Below W.heap.size W w' := h.1
theorem S2.ext {W w1 w2 : World} {b1 : Nat} {A1 : Array Value} {b2 : Nat} {A2 : Array Value} (hb : Below w1.heap.size w1 w2) (h : S2 W b1 A1 b2 A2 w1) (h1 : Box W b1 A1) (h2 : Box W b2 A2) : S2 W b1 A1 b2 A2 w2 :=
  ⟨ext_trans h.1 hb, fun j => (hb.cell (p := ⟨b1, j, none⟩) (Nat.lt_of_lt_of_le h1.1 h.1.size)).trans (h.2.1 j), fun j => (hb.cell (p := ⟨b2, j, none⟩) (Nat.lt_of_lt_of_le h2.1 h.1.size)).trans (h.2.2 j)⟩

theorem ret_int {k : IntKind} {a b : Int} (h : a = b) : Ending.returned (.int k a) = .returned (.int k b) := by rw [h]

theorem zz1 {α : Type} {l : List α} {i : Nat} : l.toArray[i]? = l[i]? := List.getElem?_toArray
theorem zz2 {α : Type} {a : α} {l : List α} {i : Nat} : (a :: l)[i + 1]? = l[i]? := List.getElem?_cons_succ
theorem zz3 {α : Type} {a : α} {l : List α} : (a :: l)[0]? = some a := List.getElem?_cons_zero
theorem zz4 {α β : Type} (a : α) (f : α → Option β) : (some a).bind f = f a := rfl
theorem zz5 {α : Type} {l : List α} {i : Nat} {a : α} : l.toArray.setIfInBounds i a = (l.set i a).toArray := List.setIfInBounds_toArray l i a
theorem zz6 {α : Type} {x : α} {l : List α} {n : Nat} {a : α} : (x :: l).set (n + 1) a = x :: l.set n a := List.set_cons_succ
theorem zz7 {α : Type} {x : α} {l : List α} {a : α} : (x :: l).set 0 a = a :: l := List.set_cons_zero
theorem zzc {w w' : World} (hb : Below w.heap.size w w') {p : Addr} {v : Value} (h : w.cell? p = some v) : w'.cell? p = some v := (hb.cell (World.block_lt_of_cell? _ _ h)).trans h
end Go.Proofs.YtlbnjgnbpiidaaaGreatDoor
namespace Go.Proofs.YtlbnjgnbpiidaaaGreatDoor
open Go.RowKit
theorem ext_alloc (w : World) (o : Obj) : Below w.heap.size w (w.alloc o) := (Below.refl _ _).alloc (Nat.le_refl _) _
/-- A block that may be written. -/
def Fre (W : World) (b : Nat) : Prop := ∀ j, W.frozen? ⟨b, j, none⟩ = false
theorem Fre.ext {W W' : World} {b : Nat} {A : Array Value} (h : Fre W b) (hA : Box W b A) (hb : Below W.heap.size W W') : Fre W' b :=
  fun j => (hb.frozen (p := ⟨b, j, none⟩) hA.1).trans (h j)
theorem Fre.new (w : World) (A : Array Value) (t : TypeId) : Fre (w.alloc (.cells A t)) w.heap.size := fun j => by simp
/-- A struct result's block alone. -/
theorem wp_box1r {P : Program} {c : Code} {Q : Exit → Act → World → Prop} {a : Act} {w : World} {A : Array Value} {t : TypeId}
    (h : ∀ W, W.heap.size = w.heap.size + 1 → Below w.heap.size w W → Box W w.heap.size A → Fre W w.heap.size → c.wp P Q a W) : c.wp P Q a (w.alloc (.cells A t)) :=
  h _ (by simp) ((Below.refl _ _).alloc (Nat.le_refl _) _) (Box.new _ _ _) (Fre.new _ _ _)
/-- One struct parameter, and a struct result. -/
theorem wp_box2r {P : Program} {c : Code} {Q : Exit → Act → World → Prop} {a : Act} {w : World} {A B : Array Value} {t u : TypeId}
    (h : ∀ W, W.heap.size = w.heap.size + 2 → Below w.heap.size w W → Box W w.heap.size A → Box W (w.heap.size + 1) B → Fre W (w.heap.size + 1) → c.wp P Q a W) : c.wp P Q a ((w.alloc (.cells A t)).alloc (.cells B u)) := by
  refine h _ (by simp) (by go_grown) ((Box.new _ _ _).ext (by go_grown)) ?_ ?_
  · have := Box.new (w.alloc (.cells A t)) B u
    simpa using this
  · have := Fre.new (w.alloc (.cells A t)) B u
    simpa using this
/-- Two struct parameters, and a struct result. -/
theorem wp_box3r {P : Program} {c : Code} {Q : Exit → Act → World → Prop} {a : Act} {w : World} {A B C : Array Value} {t u v : TypeId}
    (h : ∀ W, W.heap.size = w.heap.size + 3 → Below w.heap.size w W → Box W w.heap.size A → Box W (w.heap.size + 1) B → Box W (w.heap.size + 2) C → Fre W (w.heap.size + 2) → c.wp P Q a W) : c.wp P Q a (((w.alloc (.cells A t)).alloc (.cells B u)).alloc (.cells C v)) := by
  refine h _ (by simp) (by go_grown) (((Box.new _ _ _).ext (by go_grown)).ext (by go_grown)) ?_ ?_ ?_
  · have := Box.new (w.alloc (.cells A t)) B u
    exact Box.ext (by simpa using this) (by go_grown)
  · have := Box.new ((w.alloc (.cells A t)).alloc (.cells B u)) C v
    simpa using this
  · have := Fre.new ((w.alloc (.cells A t)).alloc (.cells B u)) C v
    simpa using this

/-- held: below B the world is W's, and two blocks read as they did -/
abbrev S2R (W : World) (B : Nat) (b1 : Nat) (A1 : Array Value) (b2 : Nat) (A2 : Array Value) (w' : World) : Prop :=
  Below B W w' ∧ (∀ j, w'.cell? ⟨b1, j, none⟩ = A1[j]?) ∧ (∀ j, w'.cell? ⟨b2, j, none⟩ = A2[j]?)
theorem S2R.start {W : World} {B b1 : Nat} {A1 : Array Value} {b2 : Nat} {A2 : Array Value} (h1 : Box W b1 A1) (h2 : Box W b2 A2) : S2R W B b1 A1 b2 A2 W.drew :=
  ⟨(Below.refl _ _).drew, h1.2, h2.2⟩
theorem S2R.ext {W w1 w2 : World} {B b1 : Nat} {A1 : Array Value} {b2 : Nat} {A2 : Array Value} (hb : Below w1.heap.size w1 w2) (h : S2R W B b1 A1 b2 A2 w1) (hB : B ≤ W.heap.size) (h1 : Box W b1 A1) (h2 : Box W b2 A2) : S2R W B b1 A1 b2 A2 w2 :=
  ⟨h.1.trans (hb.mono (Nat.le_trans hB h.1.size)), fun j => (hb.cell (p := ⟨b1, j, none⟩) (Nat.lt_of_lt_of_le h1.1 h.1.size)).trans (h.2.1 j), fun j => (hb.cell (p := ⟨b2, j, none⟩) (Nat.lt_of_lt_of_le h2.1 h.1.size)).trans (h.2.2 j)⟩
theorem S2R.set {W w1 : World} {B b1 : Nat} {A1 : Array Value} {b2 : Nat} {A2 : Array Value} {p : Addr} {v : Value} (h : S2R W B b1 A1 b2 A2 w1) (hp : B ≤ p.block) (h1 : b1 < B) (h2 : b2 < B) : S2R W B b1 A1 b2 A2 (w1.setCell p v) := by
  have hb : Below B w1 (w1.setCell p v) := (Below.refl _ _).setCell hp v
  exact ⟨h.1.trans hb, fun j => (hb.cell (p := ⟨b1, j, none⟩) h1).trans (h.2.1 j), fun j => (hb.cell (p := ⟨b2, j, none⟩) h2).trans (h.2.2 j)⟩

/-- Two cells of a block, written. -/
theorem two_set {w : World} {b : Nat} {u0 u1 : Value} (v0 v1 : Value) (h0 : w.cell? ⟨b, 0, none⟩ = some u0) (h1 : w.cell? ⟨b, 1, none⟩ = some u1) :
    ((w.setCell ⟨b, 0, none⟩ v0).setCell ⟨b, 1, none⟩ v1).cell? ⟨b, 0, none⟩ = some v0 ∧ ((w.setCell ⟨b, 0, none⟩ v0).setCell ⟨b, 1, none⟩ v1).cell? ⟨b, 1, none⟩ = some v1 := by
  have e1 : (w.setCell ⟨b, 0, none⟩ v0).cell? ⟨b, 1, none⟩ = some u1 := by rw [World.cell?_setCell_other _ _ _ _ (by simp)]; exact h1
  refine ⟨?_, ?_⟩
  · rw [World.cell?_setCell_other _ _ _ _ (by simp)]
    exact World.cell?_setCell_same _ _ _ h0
  · exact World.cell?_setCell_same _ _ _ e1

/-- The cells of a list of structs of sz cells each. -/
theorem flat_get {α : Type} {f : α → List Value} {sz : Nat} (hs : ∀ x, (f x).length = sz) : ∀ (l : List α) (k : Nat) (x : α), l[k]? = some x → ∀ j u, (f x)[j]? = some u → (l.flatMap f)[k * sz + j]? = some u
  | [], _, _, h, _, _, _ => by simp at h
  | y :: l, 0, x, h, j, u, hu => by
    obtain rfl : y = x := by simpa using h
    rw [List.flatMap_cons, Nat.zero_mul, Nat.zero_add, List.getElem?_append_left (List.getElem?_eq_some_iff.1 hu).1]; exact hu
  | y :: l, k + 1, x, h, j, u, hu => by
    have ih := flat_get hs l k x (by simpa using h) j u hu
    have e : (k + 1) * sz + j = (f y).length + (k * sz + j) := by rw [hs, Nat.add_mul]; omega
    rw [List.flatMap_cons, e, List.getElem?_append_right (by omega), ← ih]
    congr 1; omega
/-- An element of a slice of structs: where it lies, and its cells. -/
theorem Sl.elem {w : World} {a : Option Addr} {n c k : Nat} {α : Type} {f : α → List Value} {sz : Nat} {l : List α} {x : α} (s : Sl w (.slice a n c) n (l.flatMap f)) (hs : ∀ x, (f x).length = sz) (hsz : 0 < sz) (hx : l[k]? = some x) :
    ∃ b o, a = some ⟨b, o, none⟩ ∧ ∀ j u, (f x)[j]? = some u → w.cell? ⟨b, o + k * sz + j, none⟩ = some u := by
  obtain ⟨a', cap, hv, _, _, _, h3⟩ := s
  obtain ⟨rfl, _, _⟩ : a = a' ∧ True ∧ True := by cases hv; exact ⟨rfl, trivial, trivial⟩
  have h0 : 0 < (f x).length := by rw [hs]; exact hsz
  obtain ⟨b, o, rfl, _⟩ := h3 _ _ (flat_get hs l k x hx 0 _ (List.getElem?_eq_getElem h0))
  refine ⟨b, o, rfl, fun j u hu => ?_⟩
  obtain ⟨b', o', hb, hc⟩ := h3 _ _ (flat_get hs l k x hx j u hu)
  cases hb
  rw [Nat.add_assoc]; exact hc

/-- What the call owns stays owned where nothing that is there turns. -/
theorem ownsRow_ext {w w' : World} {base e size n : Nat} {v : Value} {xs : List Value} (h : w.ownsRow base e size v n xs) (hb : Below w.heap.size w w') : w'.ownsRow base e size v n xs := by
  obtain ⟨h1, h2⟩ := h
  refine ⟨h1, ?_⟩
  rcases h2 with h2 | ⟨g, cap, cur, hv, hbg, hg, h3⟩
  · exact .inl h2
  · refine .inr ⟨g, cap, cur, hv, hbg, ?_, h3⟩
    rw [hb.block g (Array.getElem?_eq_some_iff.1 hg).1]; exact hg
/-- A slice over a new block. -/
theorem Sl.new (w : World) (A : Array Value) (t : TypeId) (n cap : Nat) (h : n ≤ cap) (hm : cap ≤ maxLen) : Sl (w.alloc (.cells A t)) (.slice (some ⟨w.heap.size, 0, none⟩) n cap) n A.toList :=
  ⟨_, _, rfl, h, hm, (fun h => by cases h), fun i x hx => ⟨_, _, rfl, by simpa using hx⟩⟩

theorem S2R.grown {W w1 w2 : World} {B b1 : Nat} {A1 : Array Value} {b2 : Nat} {A2 : Array Value} {row : Option Nat} (hg : w1.grownBy w2 row) (h : S2R W B b1 A1 b2 A2 w1) (hB : B ≤ W.heap.size) (h1 : Box W b1 A1) (h2 : Box W b2 A2)
    (hr : ∀ k, row = some k → B ≤ k ∧ k ≠ b1 ∧ k ≠ b2) : S2R W B b1 A1 b2 A2 w2 := by
  have l1 := Nat.lt_of_lt_of_le h1.1 h.1.size
  have l2 := Nat.lt_of_lt_of_le h2.1 h.1.size
  refine ⟨h.1.grown hg (Nat.le_trans hB h.1.size) (fun k e => (hr k e).1), fun j => ?_, fun j => ?_⟩
  · rw [World.cell?_of_block (w := w1) (hg.block b1 l1 (fun e => (hr b1 e.symm).2.1 rfl))]; exact h.2.1 j
  · rw [World.cell?_of_block (w := w1) (hg.block b2 l2 (fun e => (hr b2 e.symm).2.2 rfl))]; exact h.2.2 j
end Go.Proofs.YtlbnjgnbpiidaaaGreatDoor
namespace Go.Proofs.YtlbnjgnbpiidaaaGreatDoor
namespace Nm
/-- the base -/
def B : Nat := 4294967296
theorem B_eq : B = 4294967296 := rfl
theorem B_pos : 0 < B := by decide
def val : List Nat → Nat
  | [] => 0
  | x :: l => x + B * val l
def Dg (l : List Nat) : Prop := ∀ x ∈ l, x < B
theorem Dg.nil : Dg [] := fun _ h => by cases h
theorem Dg.cons {x : Nat} {l : List Nat} : Dg (x :: l) ↔ x < B ∧ Dg l := by
  constructor
  · intro h; exact ⟨h x (by simp), fun y hy => h y (by simp [hy])⟩
  · rintro ⟨h, k⟩ y hy
    rcases List.mem_cons.1 hy with rfl | hy
    · exact h
    · exact k y hy
theorem Dg.take {l : List Nat} (h : Dg l) (k : Nat) : Dg (l.take k) := fun x hx => h x (List.mem_of_mem_take hx)
theorem Dg.drop {l : List Nat} (h : Dg l) (k : Nat) : Dg (l.drop k) := fun x hx => h x (List.mem_of_mem_drop hx)
theorem Dg.get {l : List Nat} (h : Dg l) {k : Nat} (hk : k < l.length) : l[k] < B := h _ (List.getElem_mem hk)
theorem Dg.append {l m : List Nat} (h : Dg l) (k : Dg m) : Dg (l ++ m) := fun x hx => by
  rcases List.mem_append.1 hx with hx | hx
  · exact h x hx
  · exact k x hx
theorem Dg.set {l : List Nat} (h : Dg l) (k : Nat) {x : Nat} (hx : x < B) : Dg (l.set k x) := fun y hy => by
  rcases List.mem_or_eq_of_mem_set hy with hy | rfl
  · exact h y hy
  · exact hx
theorem Dg.zeros (n : Nat) : Dg (List.replicate n 0) := fun x hx => by rw [(List.mem_replicate.1 hx).2]; exact B_pos

theorem val_append (l m : List Nat) : val (l ++ m) = val l + B ^ l.length * val m := by
  induction l with
  | nil => simp [val]
  | cons x l ih => simp only [List.cons_append, val, ih, List.length_cons, Nat.pow_succ]; grind
theorem val_lt {l : List Nat} (h : Dg l) : val l < B ^ l.length := by
  induction l with
  | nil => simp [val]
  | cons x l ih =>
    have ⟨h1, h2⟩ := Dg.cons.1 h
    have h3 := ih h2
    simp only [val, List.length_cons, Nat.pow_succ]
    have : B * (val l + 1) ≤ B * B ^ l.length := Nat.mul_le_mul_left _ h3
    rw [Nat.mul_comm (B ^ l.length)]
    rw [Nat.mul_add] at this
    omega
theorem val_zeros (n : Nat) : val (List.replicate n 0) = 0 := by
  induction n with
  | zero => rfl
  | succ n ih => simp [List.replicate_succ, val, ih]
theorem val_take_drop (l : List Nat) (k : Nat) (h : k ≤ l.length) : val l = val (l.take k) + B ^ k * val (l.drop k) := by
  conv => lhs; rw [← List.take_append_drop k l]
  rw [val_append, List.length_take, Nat.min_eq_left h]
theorem val_take_succ (l : List Nat) (k : Nat) (h : k < l.length) : val (l.take (k + 1)) = val (l.take k) + B ^ k * l[k] := by
  rw [List.take_succ_eq_append_getElem h, val_append, List.length_take, Nat.min_eq_left (by omega)]; simp [val]
theorem val_drop (l : List Nat) (k : Nat) (h : k < l.length) : val (l.drop k) = l[k] + B * val (l.drop (k + 1)) := by
  rw [List.drop_eq_getElem_cons h]; rfl
theorem val_set (l : List Nat) (k y : Nat) (h : k < l.length) : val (l.set k y) + B ^ k * l[k] = val l + B ^ k * y := by
  have e : l.set k y = l.take k ++ y :: l.drop (k + 1) := List.set_eq_take_append_cons_drop.trans (by simp [h])
  rw [e, val_append, List.length_take, Nat.min_eq_left (by omega), val_take_drop l k (by omega), val_drop l k h]
  simp only [val]; grind
theorem take_set_succ (l : List Nat) (k y : Nat) (h : k < l.length) : (l.set k y).take (k + 1) = l.take k ++ [y] := by
  rw [List.take_succ_eq_append_getElem (by simpa using h)]; simp [List.take_set_of_le]
theorem val_take_set (l : List Nat) (k y : Nat) (h : k < l.length) : val ((l.set k y).take (k + 1)) = val (l.take k) + B ^ k * y := by
  rw [take_set_succ l k y h, val_append, List.length_take, Nat.min_eq_left (by omega)]; simp [val]
theorem drop_set (l : List Nat) (k y : Nat) (h : k < l.length) : (l.set k y).drop k = y :: l.drop (k + 1) := by
  rw [List.drop_eq_getElem_cons (by simpa using h)]; simp [List.drop_set_of_lt]

/-- the words of a number -/
def digs (n : Nat) : List Nat := if _h : n = 0 then [] else n % B :: digs (n / B)
  termination_by n
  decreasing_by exact Nat.div_lt_self (by omega) (by decide)
theorem digs_zero : digs 0 = [] := by unfold digs; simp
theorem digs_pos {n : Nat} (h : 0 < n) : digs n = n % B :: digs (n / B) := by rw [digs]; rw [dif_neg (by omega)]
theorem val_digs (n : Nat) : val (digs n) = n := by
  induction n using Nat.strongRecOn with
  | ind n ih =>
    by_cases h : n = 0
    · subst h; rw [digs_zero]; rfl
    · rw [digs_pos (by omega)]
      simp only [val]
      rw [ih _ (Nat.div_lt_self (by omega) (by decide))]
      exact Nat.mod_add_div n B
theorem digs_dg (n : Nat) : Dg (digs n) := by
  induction n using Nat.strongRecOn with
  | ind n ih =>
    by_cases h : n = 0
    · subst h; rw [digs_zero]; exact Dg.nil
    · rw [digs_pos (by omega)]
      exact Dg.cons.2 ⟨Nat.mod_lt _ B_pos, ih _ (Nat.div_lt_self (by omega) (by decide))⟩
def Can (l : List Nat) : Prop := ∀ h : l ≠ [], l.getLast h ≠ 0
theorem val_pos_of_can {l : List Nat} (h : Can l) (hl : l ≠ []) : 0 < val l := by
  induction l with
  | nil => exact absurd rfl hl
  | cons x l ih =>
    by_cases hn : l = []
    · subst hn
      have := h (by simp)
      simp at this
      simp only [val]; omega
    · have : 0 < val l := ih (fun h' => by have := h (by simp); rwa [List.getLast_cons h'] at this) hn
      have hB : 0 < B * val l := Nat.mul_pos B_pos this
      simp only [val]; omega
theorem digs_val {l : List Nat} (h : Dg l) (hc : Can l) : digs (val l) = l := by
  induction l with
  | nil => simp [val, digs_zero]
  | cons x l ih =>
    have ⟨h1, h2⟩ := Dg.cons.1 h
    have hp := val_pos_of_can hc (by simp)
    rw [digs_pos hp]
    have e1 : val (x :: l) % B = x := by simp only [val]; rw [Nat.add_mul_mod_self_left, Nat.mod_eq_of_lt h1]
    have e2 : val (x :: l) / B = val l := by simp only [val]; rw [Nat.add_mul_div_left _ _ B_pos, Nat.div_eq_of_lt h1, Nat.zero_add]
    rw [e1, e2]
    by_cases hn : l = []
    · subst hn; simp [val, digs_zero]
    · rw [ih h2 (fun h' => by have := hc (by simp); rwa [List.getLast_cons h'] at this)]
theorem digs_can (n : Nat) : Can (digs n) := by
  induction n using Nat.strongRecOn with
  | ind n ih =>
    by_cases h : n = 0
    · subst h; rw [digs_zero]; exact fun h => absurd rfl h
    · rw [digs_pos (by omega)]
      intro h'
      by_cases hz : n / B = 0
      · have : n < B := by
          rcases Nat.div_eq_zero_iff.1 hz with h | h
          · exact absurd h (by decide)
          · exact h
        simp only [hz, digs_zero, List.getLast_singleton]; rw [Nat.mod_eq_of_lt this]; exact h
      · have hne : digs (n / B) ≠ [] := by rw [digs_pos (Nat.pos_of_ne_zero hz)]; simp
        rw [List.getLast_cons hne]
        exact ih _ (Nat.div_lt_self (by omega) (by decide)) hne
/-- how many words a number has -/
def wlen (n : Nat) : Nat := (digs n).length
theorem wlen_zero : wlen 0 = 0 := by unfold wlen; rw [digs_zero]; rfl
theorem wlen_eq_zero {n : Nat} : wlen n = 0 ↔ n = 0 := by
  constructor
  · intro h
    have := List.length_eq_zero_iff.1 h
    have e := val_digs n
    rw [this] at e; exact e.symm
  · rintro rfl; exact wlen_zero
theorem lt_pow_wlen (n : Nat) : n < B ^ wlen n := by
  have := val_lt (digs_dg n); rwa [val_digs] at this
theorem pow_wlen_le {n : Nat} (h : 0 < n) : B ^ (wlen n - 1) ≤ n := by
  have hne : digs n ≠ [] := by rw [digs_pos h]; simp
  have hl : 0 < (digs n).length := List.length_pos_iff.2 hne
  have e := val_take_drop (digs n) ((digs n).length - 1) (by omega)
  rw [val_digs, val_drop _ _ (by omega)] at e
  have hc := digs_can n hne
  rw [List.getLast_eq_getElem] at hc
  have : 0 < B ^ ((digs n).length - 1) * ((digs n)[(digs n).length - 1] + B * val ((digs n).drop ((digs n).length - 1 + 1))) → True := fun _ => trivial
  have h1 : 1 ≤ (digs n)[(digs n).length - 1] + B * val ((digs n).drop ((digs n).length - 1 + 1)) := by omega
  have h2 := Nat.mul_le_mul_left (B ^ ((digs n).length - 1)) h1
  unfold wlen; omega
theorem wlen_le {n k : Nat} (h : n < B ^ k) : wlen n ≤ k := by
  by_cases h0 : n = 0
  · subst h0; rw [wlen_zero]; omega
  · have h1 := pow_wlen_le (n := n) (by omega)
    have h2 : B ^ (wlen n - 1) < B ^ k := Nat.lt_of_le_of_lt h1 h
    have h3 := (Nat.pow_lt_pow_iff_right (show 1 < B by decide)).1 h2
    omega
theorem wlen_mono {m n : Nat} (h : m ≤ n) : wlen m ≤ wlen n := wlen_le (Nat.lt_of_le_of_lt h (lt_pow_wlen n))
theorem wlen_add (m n : Nat) : wlen (m + n) ≤ max (wlen m) (wlen n) + 1 := by
  apply wlen_le
  have h1 := lt_pow_wlen m
  have h2 := lt_pow_wlen n
  have h3 : B ^ wlen m ≤ B ^ max (wlen m) (wlen n) := Nat.pow_le_pow_right B_pos (Nat.le_max_left _ _)
  have h4 : B ^ wlen n ≤ B ^ max (wlen m) (wlen n) := Nat.pow_le_pow_right B_pos (Nat.le_max_right _ _)
  rw [Nat.pow_succ, B_eq] at *; omega
theorem wlen_mul (m n : Nat) : wlen (m * n) ≤ wlen m + wlen n := by
  apply wlen_le
  rw [Nat.pow_add]
  have h1 := lt_pow_wlen m
  have h2 := lt_pow_wlen n
  exact Nat.mul_lt_mul'' h1 h2
theorem lt_of_wlen {m n : Nat} (h : wlen m < wlen n) : m < n := by
  rcases Nat.lt_or_ge m n with h1 | h1
  · exact h1
  · have := wlen_mono h1; omega
/-- a list of words without zeros at its end is that of its number -/
theorem digs_take {l : List Nat} (h : Dg l) {k : Nat} (hk : k ≤ l.length) (hv : val (l.take k) = val l) (hz : ∀ j (hj : j < l.length), k = j + 1 → l[j] ≠ 0) : digs (val l) = l.take k := by
  rw [← hv]
  apply digs_val (h.take k)
  intro hne
  have hlen : (l.take k).length = k := by rw [List.length_take]; omega
  have hk0 : 0 < k := by have := List.length_pos_iff.2 hne; omega
  rw [List.getLast_eq_getElem]
  simp only [hlen, List.getElem_take]
  exact hz (k - 1) (by omega) (by omega)
theorem val_take_zero {l : List Nat} {k : Nat} (hk : k < l.length) (hv : val (l.take (k + 1)) = val l) (hz : l[k] = 0) : val (l.take k) = val l := by
  rw [← hv, val_take_succ l k hk, hz]; simp
/-- the first word that differs, from the top, decides -/
theorem val_lt_of {l m : List Nat} (hl : Dg l) {j : Nat} (h1 : j < l.length) (h2 : j < m.length) (hd : l.drop (j + 1) = m.drop (j + 1)) (h : l[j] < m[j]) : val l < val m := by
  rw [val_take_drop l j (by omega), val_take_drop m j (by omega), val_drop l j h1, val_drop m j h2, hd]
  have h3 := val_lt (hl.take j)
  rw [List.length_take, Nat.min_eq_left (by omega)] at h3
  generalize B ^ j = P at *
  generalize val (m.drop (j + 1)) = D at *
  have h4 : P * (l[j] + B * D + 1) ≤ P * (m[j] + B * D) := Nat.mul_le_mul_left _ (by omega)
  rw [Nat.mul_add, Nat.mul_one] at h4
  omega
def cmpN (x y : Nat) : Int := if x < y then -1 else if y < x then 1 else 0
theorem cmpN_lt {x y : Nat} (h : x < y) : cmpN x y = -1 := by unfold cmpN; rw [if_pos h]
theorem cmpN_gt {x y : Nat} (h : y < x) : cmpN x y = 1 := by unfold cmpN; rw [if_neg (by omega), if_pos h]
theorem cmpN_eq {x y : Nat} (h : x = y) : cmpN x y = 0 := by subst h; unfold cmpN; simp
theorem cmpN_zero {x y : Nat} : cmpN x y = 0 ↔ x = y := by unfold cmpN; split <;> (try split) <;> omega
theorem cmpN_neg {x y : Nat} : cmpN x y < 0 ↔ x < y := by unfold cmpN; split <;> (try split) <;> omega
theorem digs_inj {x y : Nat} (h : digs x = digs y) : x = y := by rw [← val_digs x, h, val_digs]
/-- a word of a list, or 0 behind its end -/
def wd (l : List Nat) (k : Nat) : Nat := l.getD k 0
theorem wd_get {l : List Nat} {k : Nat} (h : k < l.length) : wd l k = l[k] := by
  unfold wd; rw [List.getD_eq_getElem?_getD, List.getElem?_eq_getElem h]; rfl
theorem wd_past {l : List Nat} {k : Nat} (h : l.length ≤ k) : wd l k = 0 := by
  unfold wd; rw [List.getD_eq_getElem?_getD, List.getElem?_eq_none h]; rfl
theorem val_take_wd (l : List Nat) (k : Nat) : val (l.take (k + 1)) = val (l.take k) + B ^ k * wd l k := by
  by_cases hk : k < l.length
  · rw [val_take_succ l k hk, wd_get hk]
  · rw [List.take_of_length_le (by omega), List.take_of_length_le (by omega), wd_past (by omega)]; simp
/-- a step of the sum -/
theorem add_step {P V A C c x y : Nat} (h : V + P * c = A + C) : (V + P * ((c + x + y) % B)) + P * B * ((c + x + y) / B) = (A + P * x) + (C + P * y) := by
  have e : P * ((c + x + y) % B) + P * B * ((c + x + y) / B) = P * (c + x + y) := by
    rw [Nat.mul_assoc, ← Nat.mul_add, Nat.mod_add_div]
  have e2 : P * (c + x + y) = P * c + P * x + P * y := by rw [Nat.mul_add, Nat.mul_add]
  omega
end Nm
end Go.Proofs.YtlbnjgnbpiidaaaGreatDoor
