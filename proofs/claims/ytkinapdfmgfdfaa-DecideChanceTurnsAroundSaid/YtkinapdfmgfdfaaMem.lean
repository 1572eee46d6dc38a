/- Words for slices that are read and small facts on worlds, for all walks of this seat: no program stands in it. -/
import Derived.WalkKit
import Derived.WalkSpells
import Derived.WalkLawsBesides
import Derived.Handy
import Derived.Lib.Hide
import Derived.Lib.ConvBytes
import Derived.Deep.DeepAppendRoom
import Derived.Laws.AppendOwnNone
namespace Go.Proofs.Ytkinapdfmgfdfaa
open Go.RowKit

/-- The slice value v has n elements, and reads as the cells cs. -/
def Sl (w : World) (v : Value) (n : Nat) (cs : List Value) : Prop :=
  ∃ (a : Option Addr) (cap : Nat), v = .slice a n cap ∧ n ≤ cap ∧ cap ≤ maxLen ∧ (a = none → cap = 0) ∧ ∀ i x, cs[i]? = some x → ∃ b o, a = some ⟨b, o, none⟩ ∧ w.cell? ⟨b, o + i, none⟩ = some x

theorem Sl.ext {w w' : World} {v : Value} {n : Nat} {cs : List Value} (h : Sl w v n cs) (hb : Below w.heap.size w w') : Sl w' v n cs := by
  obtain ⟨a, cap, hv, h1, h2, h0, h3⟩ := h
  refine ⟨a, cap, hv, h1, h2, h0, fun i x hx => ?_⟩
  obtain ⟨b, o, ha, hc⟩ := h3 i x hx
  exact ⟨b, o, ha, (hb.cell (p := ⟨b, o + i, none⟩) (World.block_lt_of_cell? w _ hc)).trans hc⟩

theorem Sl.drew {w : World} {v : Value} {n : Nat} {cs : List Value} (h : Sl w v n cs) : Sl w.drew v n cs := h

theorem Sl.nil (w : World) : Sl w (.slice none 0 0) 0 [] := ⟨none, 0, rfl, Nat.le_refl _, Nat.zero_le _, fun _ => rfl, fun i x h => by simp at h⟩

theorem ext_trans {a b c : World} (h : Below a.heap.size a b) (k : Below b.heap.size b c) : Below a.heap.size a c :=
  h.trans (k.mono h.size)

/-- What the call owns reads as its cells. -/
theorem Sl.ofOwn {w : World} {base e size n : Nat} {v : Value} {xs : List Value} (h : w.ownsRow base e size v n xs) : Sl w v n xs := by
  obtain ⟨h1, h2⟩ := h
  rcases h2 with ⟨rfl, rfl⟩ | ⟨g, cap, cur, rfl, hb, hg, hn, hm, hs, ht⟩
  · have : xs = [] := List.length_eq_zero_iff.1 (by omega)
    subst this; exact Sl.nil w
  · refine ⟨some ⟨g, 0, none⟩, cap, rfl, hn, hm, (fun h => by cases h), fun i x hx => ⟨g, 0, rfl, ?_⟩⟩
    rw [← ht] at hx
    have hi : i < (cur.toList.take (n * size)).length := (List.getElem?_eq_some_iff.1 hx).1
    simp only [List.length_take] at hi
    rw [List.getElem?_take_of_lt (by omega)] at hx
    simp only [World.cell?, hg, Nat.zero_add]
    simpa using hx

theorem add_spot (b o j : Nat) : (⟨b, o, none⟩ : Addr).add j = ⟨b, o + j, none⟩ := by
  unfold Addr.add; split
  · next h => subst h; rfl
  · rfl

/-- The source of an append, out of what it reads as. -/
theorem Sl.src {w : World} {x : Value} {m : Nat} {news : List Value} (h : Sl w x m news) :
    (x = .slice none 0 0 ∧ m = 0 ∧ news = []) ∨ ∃ ad c, x = .slice (some ad) m c ∧ ∀ j u, news[j]? = some u → w.cell? (ad.add j) = some u := by
  obtain ⟨a, cap, rfl, h1, h2, h0, h3⟩ := h
  cases a with
  | none =>
    left
    have := h0 rfl
    subst this
    refine ⟨by congr; omega, by omega, ?_⟩
    cases news with
    | nil => rfl
    | cons y l => obtain ⟨_, _, h, _⟩ := h3 0 y rfl; cases h
  | some ad =>
    right
    refine ⟨ad, cap, rfl, fun j u hu => ?_⟩
    obtain ⟨b, o, hb, hc⟩ := h3 j u hu
    cases hb
    rw [add_spot]; exact hc

/-- append onto a row of the call's own with room for it: no bound on bytes. -/
theorem wpList_append_spare_sl {P : Program} {w : World} {ops : Array Oper} {rest : List Oper} {o : Oper} {a : Act} {Q : Exit → Act → World → Prop} (hgd : o.guard = none) (s x : Operand) (t : TypeId)
    (ho : o.op = .call { callee := .builtin .append, args := #[s, x], argTypes := #[t, t] })
    (base : Nat) (e : TypeId) {z : Value} {size bytes : Nat} (ht : P.underlying t = some (.slice e)) (hinfo : (P.info? e).map (fun i => (i.zero, i.size, i.bytes)) = some (some z, size, bytes))
    {g n cap : Nat} {xs : List Value} (hs : a.eval s = .slice (some ⟨g, 0, none⟩) n cap) (hown : w.ownsRow base e size (.slice (some ⟨g, 0, none⟩) n cap) n xs)
    {xv : Value} {m : Nat} {news : List Value} (hx : a.eval x = xv) (hsl : Sl w xv m news) (hl : news.length = m * size) (h1 : ∀ u ∈ news, u.oneCell' = true)
    (hroom : n + m ≤ cap)
    (h : ∀ w', w'.ownsRow base e size (.slice (some ⟨g, 0, none⟩) (n + m) cap) (n + m) (xs ++ news) → w.grownBy w' (some g) → wpList P ops Q rest (a.put o.dst (.slice (some ⟨g, 0, none⟩) (n + m) cap)) w') : wpList P ops Q (o :: rest) a w := by
  obtain ⟨i, hi, hz0, hz1, hz2⟩ := info_parts hinfo
  rcases hsl.src with ⟨rfl, rfl, rfl⟩ | ⟨ad, c, rfl, hnews⟩
  · refine wpList_append_own_none hgd s x t ho base e i size ht hi _ n xs hs hown hx ?_
    have := h w (by simpa using hown) (World.grownBy.refl w _)
    simpa using this
  · exact wpList_append_own_spare w hgd s x t ho base e i size ht hi hz1 g n cap xs hs hown ad m c news hx hl hnews h1 hroom h

/-- append onto a row of the call's own, grown where there is no room. -/
theorem wpList_append_sl {P : Program} {w : World} {ops : Array Oper} {rest : List Oper} {o : Oper} {a : Act} {Q : Exit → Act → World → Prop} (hgd : o.guard = none) (s x : Operand) (t : TypeId)
    (ho : o.op = .call { callee := .builtin .append, args := #[s, x], argTypes := #[t, t] })
    (base : Nat) (e : TypeId) {z : Value} {size bytes : Nat} (ht : P.underlying t = some (.slice e)) (hinfo : (P.info? e).map (fun i => (i.zero, i.size, i.bytes)) = some (some z, size, bytes))
    (hzs : z.cells.size = size) (hsz : 0 < size)
    {v : Value} {n : Nat} {xs : List Value} (hs : a.eval s = v) (hown : w.ownsRow base e size v n xs)
    {xv : Value} {m : Nat} {news : List Value} (hx : a.eval x = xv) (hsl : Sl w xv m news) (hl : news.length = m * size) (h1 : ∀ u ∈ news, u.oneCell' = true)
    (h63 : n + m ≤ maxLen) (hbytes : (n + m) * bytes ≤ 140737488355328) (hbase : base ≤ w.heap.size)
    (h : ∀ v' w', w'.ownsRow base e size v' (n + m) (xs ++ news) → w.grownBy w' v.ownBlock → (v' = .slice none 0 0 ↔ v = .slice none 0 0 ∧ m = 0) → wpList P ops Q rest (a.put o.dst v') w') : wpList P ops Q (o :: rest) a w := by
  obtain ⟨i, hi, hz0, hz1, hz2⟩ := info_parts hinfo
  rcases hsl.src with ⟨rfl, rfl, rfl⟩ | ⟨ad, c, rfl, hnews⟩
  · refine wpList_append_own_none hgd s x t ho base e i size ht hi _ n xs hs hown hx ?_
    exact h v w (by simpa using hown) (World.grownBy.refl w _) (by simp)
  · exact wpList_append_own w hgd s x t ho base e i z size bytes ht hi hz0 hz1 hz2 hzs hsz v n xs hs hown ad m c news hx hl hnews h1 h63 hbytes hbase h

/-- bytes as cells -/
def bcells (l : List UInt8) : List Value := l.map fun c => .int .u8 (c.toNat : Int)
theorem bcells_length (l : List UInt8) : (bcells l).length = l.length := by simp [bcells]
theorem bcells_append (l m : List UInt8) : bcells (l ++ m) = bcells l ++ bcells m := by simp [bcells]
theorem bcells_get (l : List UInt8) (i : Nat) (h : i < l.length) : (bcells l)[i]? = some (.int .u8 (l[i].toNat : Int)) := by simp [bcells, h]
theorem bcells_one (l : List UInt8) : ∀ u ∈ bcells l, u.oneCell' = true := by
  intro u hu; simp only [bcells, List.mem_map] at hu; obtain ⟨c, _, rfl⟩ := hu; rfl

/-- []byte(s): a new array that reads as the string. -/
theorem wpList_bytes_of_string {P : Program} {w : World} {ops : Array Oper} {rest : List Oper} {o : Oper} {a : Act} {Q : Exit → Act → World → Prop} (hgd : o.guard = none) (x : Operand) (src dst e : TypeId)
    (ho : o.op = .convert src dst x) (hs : P.underlying src = some .string) (hd : P.underlying dst = some (.slice e)) (he : P.underlying e = some (.int .u8))
    (s : ByteArray) (hx : a.eval x = .string s) (hsz : s.size ≤ maxLen)
    (h : ∀ cap w', Sl w' (.slice (some ⟨w.heap.size, 0, none⟩) s.size cap) s.size (bcells s.data.toList) → Below w.heap.size w w' → w'.heap.size = w.heap.size + 1 → wpList P ops Q rest (a.put o.dst (.slice (some ⟨w.heap.size, 0, none⟩) s.size cap)) w') : wpList P ops Q (o :: rest) a w := by
  refine wpList_plain hgd fun K hK => ?_
  have hr := Lib.run_convert_string_bytes (P := P) w src dst e s hs hd he
  unfold Oper.wp execOp
  simp only [ho, hx, Sem.run_bind, hr, Result.andThen_ok, Sem.run_pure]
  refine hK _ _ (h _ _ ⟨_, _, rfl, grownCap_ge _ _ _ _, grownCap_le_maxLen _ _ _ _ hsz, (fun h => by cases h), fun i x hx => ⟨_, _, rfl, ?_⟩⟩ ⟨?_, ?_, ?_, ?_, ?_⟩ (Lib.bytesWorld_size _ _ _))
  · have hi : i < s.data.toList.length := by have := (List.getElem?_eq_some_iff.1 hx).1; rwa [bcells_length] at this
    rw [bcells_get _ _ hi] at hx
    rw [Nat.zero_add, Lib.bytesWorld_cell _ _ _ _ (by simpa using hi)]
    rw [← hx, List.getD_eq_getElem?_getD, List.getElem?_eq_getElem hi]; rfl
  · simp [Lib.bytesWorld, World.freeze]; rfl
  · simp [Lib.bytesWorld, World.freeze]
  · simp [Lib.bytesWorld, World.freeze]; rfl
  · rw [Lib.bytesWorld_size]; omega
  · exact fun k hk => Lib.bytesWorld_at_old _ _ _ _ hk

theorem take_snoc (s : ByteArray) (k : Nat) (h : k < s.size) : s.data.toList.take (k + 1) = s.data.toList.take k ++ [s[k]] := by
  rw [List.take_succ_eq_append_getElem (by simpa using h)]; rfl

theorem bcell {W w1 : World} (hb : Below W.heap.size W w1) : (∀ b o, b < W.heap.size → w1.cell? ⟨b, o, none⟩ = W.cell? ⟨b, o, none⟩) ∧ (∀ b o, b < W.heap.size → w1.frozen? ⟨b, o, none⟩ = W.frozen? ⟨b, o, none⟩) :=
  ⟨fun b o h => hb.cell (p := ⟨b, o, none⟩) h, fun b o h => hb.frozen (p := ⟨b, o, none⟩) h⟩

/-- A block that reads as an array of cells. -/
def Box (W : World) (b : Nat) (A : Array Value) : Prop := b < W.heap.size ∧ ∀ j, W.cell? ⟨b, j, none⟩ = A[j]?
theorem Box.ext {W W' : World} {b : Nat} {A : Array Value} (h : Box W b A) (hb : Below W.heap.size W W') : Box W' b A :=
  ⟨Nat.lt_of_lt_of_le h.1 hb.size, fun j => (hb.cell (p := ⟨b, j, none⟩) h.1).trans (h.2 j)⟩
theorem Box.new (w : World) (A : Array Value) (t : TypeId) : Box (w.alloc (.cells A t)) w.heap.size A := ⟨by simp, fun j => by simp⟩

/-- A struct parameter's block, and from here on the world under a name. -/
theorem wp_box1 {P : Program} {c : Code} {Q : Exit → Act → World → Prop} {a : Act} {w : World} {A : Array Value} {t : TypeId}
    (h : ∀ W, W.heap.size = w.heap.size + 1 → Below w.heap.size w W → Box W w.heap.size A → c.wp P Q a W) : c.wp P Q a (w.alloc (.cells A t)) :=
  h _ (by simp) ((Below.refl _ _).alloc (Nat.le_refl _) _) (Box.new _ _ _)
theorem wp_box2 {P : Program} {c : Code} {Q : Exit → Act → World → Prop} {a : Act} {w : World} {A B : Array Value} {t u : TypeId}
    (h : ∀ W, W.heap.size = w.heap.size + 2 → Below w.heap.size w W → Box W w.heap.size A → Box W (w.heap.size + 1) B → c.wp P Q a W) : c.wp P Q a ((w.alloc (.cells A t)).alloc (.cells B u)) := by
  refine h _ (by simp) (by go_grown) ((Box.new _ _ _).ext (by go_grown)) ?_
  have := Box.new (w.alloc (.cells A t)) B u
  simpa using this
theorem wp_box3 {P : Program} {c : Code} {Q : Exit → Act → World → Prop} {a : Act} {w : World} {A B C : Array Value} {t u v : TypeId}
    (h : ∀ W, W.heap.size = w.heap.size + 3 → Below w.heap.size w W → Box W w.heap.size A → Box W (w.heap.size + 1) B → Box W (w.heap.size + 2) C → c.wp P Q a W) : c.wp P Q a (((w.alloc (.cells A t)).alloc (.cells B u)).alloc (.cells C v)) := by
  refine h _ (by simp) (by go_grown) (((Box.new _ _ _).ext (by go_grown)).ext (by go_grown)) ?_ ?_
  · have := Box.new (w.alloc (.cells A t)) B u
    exact Box.ext (by simpa using this) (by go_grown)
  · have := Box.new ((w.alloc (.cells A t)).alloc (.cells B u)) C v
    simpa using this

/-- What a region that draws its order holds on to: the world is an extension of W, and two blocks read as they did. -/
abbrev S2 (W : World) (b1 : Nat) (A1 : Array Value) (b2 : Nat) (A2 : Array Value) (w' : World) : Prop :=
  Below W.heap.size W w' ∧ (∀ j, w'.cell? ⟨b1, j, none⟩ = A1[j]?) ∧ (∀ j, w'.cell? ⟨b2, j, none⟩ = A2[j]?)
theorem S2.start {W : World} {b1 : Nat} {A1 : Array Value} {b2 : Nat} {A2 : Array Value} (h1 : Box W b1 A1) (h2 : Box W b2 A2) : S2 W b1 A1 b2 A2 W.drew :=
  ⟨(Below.refl _ _).drew, h1.2, h2.2⟩
theorem S2.base {W w' : World} {b1 : Nat} {A1 : Array Value} {b2 : Nat} {A2 : Array Value} (h : S2 W b1 A1 b2 A2 w') : Below W.heap.size W w' := h.1
theorem S2.ext {W w1 w2 : World} {b1 : Nat} {A1 : Array Value} {b2 : Nat} {A2 : Array Value} (hb : Below w1.heap.size w1 w2) (h : S2 W b1 A1 b2 A2 w1) (h1 : Box W b1 A1) (h2 : Box W b2 A2) : S2 W b1 A1 b2 A2 w2 :=
  ⟨ext_trans h.1 hb, fun j => (hb.cell (p := ⟨b1, j, none⟩) (Nat.lt_of_lt_of_le h1.1 h.1.size)).trans (h.2.1 j), fun j => (hb.cell (p := ⟨b2, j, none⟩) (Nat.lt_of_lt_of_le h2.1 h.1.size)).trans (h.2.2 j)⟩

theorem ret_int {k : IntKind} {a b : Int} (h : a = b) : Ending.returned (.int k a) = .returned (.int k b) := by rw [h]

/-- a number of 64 bits -/
def i64ok (n : Int) : Prop := -9223372036854775808 ≤ n ∧ n ≤ 9223372036854775807
end Go.Proofs.Ytkinapdfmgfdfaa
