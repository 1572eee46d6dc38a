/- Times of package value. What a region that draws its order holds on to, where it ends in a store into a block of the call's own. No program stands in it. power and capitals of package decide, power of package metric. capitals of package decide. -/
import Derived.Test.YtmnmepbljegjeaaGreatDoorFair02
import Derived.Test.YtmnmepbljegjeaaGreatDoorFair00
import Derived.Deep.RegionHeld3
import Derived.Deep.Cut
namespace Go.Proofs.YtmnmepbljegjeaaGreatDoor
open Go.RowKit
namespace Nm
theorem mul_step {Pi Pk V V' V0 cr X Y O vk z q : Nat} (hset : V' + Pi * Pk * O = V + Pi * Pk * z) (hinv : V + Pi * Pk * cr = V0 + Pi * (X * vk)) (hs : z + B * q = cr + (X * Y + O)) : V' + Pi * (Pk * B) * q = V0 + Pi * (X * (vk + Pk * Y)) := by
  have e : Pi * Pk * (z + B * q) = Pi * Pk * (cr + (X * Y + O)) := by rw [hs]
  rw [Nat.mul_add, Nat.mul_add, Nat.mul_add] at e
  have e1 : Pi * (Pk * B) * q = Pi * Pk * (B * q) := by ac_rfl
  have e2 : Pi * (X * (vk + Pk * Y)) = Pi * (X * vk) + Pi * Pk * (X * Y) := by
    rw [Nat.mul_add, Nat.mul_add]; congr 1; ac_rfl
  omega
theorem mul_le {X Y : Nat} (hX : X < 4294967296) (hY : Y < 4294967296) : (X : Int) * (Y : Int) ≤ 18446744065119617025 ∧ 0 ≤ (X : Int) * (Y : Int) := by
  have h : X * Y ≤ 4294967295 * 4294967295 := Nat.mul_le_mul (by omega) (by omega)
  have h2 : ((X * Y : Nat) : Int) = (X : Int) * (Y : Int) := Int.natCast_mul _ _
  omega
theorem val_take_set_in (l : List Nat) (k y T : Nat) (h : k < T) (hT : T ≤ l.length) : val ((l.set k y).take T) + B ^ k * l[k]'(by omega) = val (l.take T) + B ^ k * y := by
  have h1 : k < (l.take T).length := by rw [List.length_take]; omega
  have := val_set (l.take T) k y h1
  rw [List.take_set]
  simpa using this
set_option maxHeartbeats 8000000 in
theorem times_at (x y : Nat) (v u : Value) (w : World) (hx : N w v x) (hy : N w u y) (hxl : wlen x ≤ 1000000000) (hyl : wlen y ≤ 1000000000) : Calls Tryz.prog 93 #[v, u] w (NPost w (x * y)) := by
  obtain ⟨a, c, rfl, s1⟩ := hx.open_
  obtain ⟨a', c', rfl, s2⟩ := hy.open_
  obtain ⟨p1, p2⟩ := sl_caps s1
  obtain ⟨q1, q2⟩ := sl_caps s2
  have HX := Lib.hid (digs_dg x)
  have HY := Lib.hid (digs_dg y)
  unfold wlen at hxl hyl
  clear hx hy
  go_enter Tryz.func93, Tryz.ntmps93
  go_wp2_with (refine wpList_make_words rfl _ _ rfl ((digs x).length + (digs y).length) rfl rfl ?_ ?_ ?_; rotate_left 2; intro W hO hB hsz)
  case refine_1 => go_num
  case refine_2 => omega
  clear hsz
  have HZ : Hid (val ((List.replicate ((digs x).length + (digs y).length) 0).take (0 + (digs y).length)) = val ((digs x).take 0) * y) := by
    have : val ((List.replicate ((digs x).length + (digs y).length) 0).take (0 + (digs y).length)) = val ((digs x).take 0) * y := by rw [List.take_replicate, val_zeros]; simp [val]
    exact this
  go_loopw [19] (fun iv wr => ∃ (i : Nat) (out : List Nat), i ≤ (digs x).length ∧ iv = .int .i64 i ∧ Hid (out.length = (digs x).length + (digs y).length) ∧ Hid (Dg out) ∧ Hid (val (out.take (i + (digs y).length)) = val ((digs x).take i) * y) ∧ Own wr w.heap.size out ∧ Below w.heap.size w wr) (fun iv _ => (digs x).length - (intOf iv).toNat)
  case atStart => exact ⟨0, List.replicate ((digs x).length + (digs y).length) 0, by omega, rfl, by have := @List.length_replicate Nat ((digs x).length + (digs y).length) 0; exact this, Dg.zeros _, HZ, hO, hB⟩
  case round =>
    obtain ⟨i, out0, hi, rfl, HL, HDo, HV, hOk, hBk⟩ := hrel
    by_cases hlt : i < (digs x).length
    · obtain ⟨b, o, rfl, e0⟩ := sl_addr (s1.ext hBk) (wcs_get hlt)
      have hX := HX.out.get hlt
      have HV1 := Lib.hid (val_take_succ (digs x) i hlt)
      generalize (digs x)[i] = X at *
      rw [B_eq] at hX
      have HZ2 : Hid (val (out0.take (i + (digs y).length)) + B ^ i * B ^ 0 * 0 = val ((digs x).take i) * y + B ^ i * (X * val ((digs y).take 0))) := by
        have : val (out0.take (i + (digs y).length)) + B ^ i * B ^ 0 * 0 = val ((digs x).take i) * y + B ^ i * (X * val ((digs y).take 0)) := by rw [HV.out]; simp [val]
        exact this
      clear HV
      go_wp2
      go_loopw [8, 26] (fun cv kv wr => ∃ (k cr : Nat) (out : List Nat), k ≤ (digs y).length ∧ kv = .int .i64 k ∧ cv = .int .u64 cr ∧ cr < 4294967296 ∧ Hid (out.length = (digs x).length + (digs y).length) ∧ Hid (Dg out) ∧ Hid (val (out.take (i + (digs y).length)) + B ^ i * B ^ k * cr = val ((digs x).take i) * y + B ^ i * (X * val ((digs y).take k))) ∧ Own wr w.heap.size out ∧ Below w.heap.size w wr) (fun _ kv _ => (digs y).length - (intOf kv).toNat)
      case atStart => exact ⟨0, 0, out0, by omega, rfl, rfl, by omega, HL, HDo, HZ2, hOk, hBk⟩
      case round =>
        clear hOk hBk HL HDo HZ2 e0
        obtain ⟨k, cr, out, hk, rfl, rfl, hcr, HL, HDo, HV, hOk, hBk⟩ := hrel
        by_cases hlk : k < (digs y).length
        · obtain ⟨b', o', rfl, f0⟩ := sl_addr (s2.ext hBk) (wcs_get hlk)
          have hY := HY.out.get hlk
          have hko : i + k < out.length := by have := HL.out; omega
          have o0 := hOk.cell hko
          have o1 := hOk.frozen (i + k)
          have hOo := HDo.out.get hko
          have hV2 := val_take_succ (digs y) k hlk
          have hset := fun z => val_take_set_in out (i + k) z (i + (digs y).length) (by omega) (by have := HL.out; omega)
          generalize out[i + k] = O at *
          generalize (digs y)[k] = Y at *
          rw [B_eq] at hY hOo
          obtain ⟨hm1, hm2⟩ := mul_le hX hY
          have hm3 : ((X * Y : Nat) : Int) = (X : Int) * (Y : Int) := Int.natCast_mul _ _
          have HR : Hid (val ((out.set (i + k) ((cr + (X * Y + O)) % 4294967296)).take (i + (digs y).length)) + B ^ i * B ^ (k + 1) * ((cr + (X * Y + O)) / 4294967296) = val ((digs x).take i) * y + B ^ i * (X * val ((digs y).take (k + 1)))) := by
            have h1 := hset ((cr + (X * Y + O)) % 4294967296)
            rw [Nat.pow_add] at h1
            have h2 := mul_step (Y := Y) h1 HV.out (q := (cr + (X * Y + O)) / 4294967296) (by rw [B_eq]; exact Nat.mod_add_div _ _)
            rw [hV2, Nat.pow_succ]; exact h2
          have HM := Lib.hid hm3
          clear hset hV2 hm3
          go_wp2
          go_roundw
          case rel => exact ⟨k + 1, (cr + (X * Y + O)) / 4294967296, out.set (i + k) ((cr + (X * Y + O)) % 4294967296), by omega, by go_num, by rw [← HM.out]; go_num, by have := HM.out; omega, Hid.len_set HL _ _, Hid.dg_set HDo _ (Nat.mod_lt _ B_pos), HR, hOk.set' hko _ (by rw [← HM.out]; omega), hBk.setCell (Nat.le_refl _) _⟩
          case measure => simp [intOf]; omega
        · obtain rfl : k = (digs y).length := by omega
          have hko : i + (digs y).length < out.length := by have := HL.out; omega
          have o0 := hOk.cell hko
          have o1 := hOk.frozen (i + (digs y).length)
          have HR : Hid (val ((out.set (i + (digs y).length) cr).take (i + 1 + (digs y).length)) = val ((digs x).take (i + 1)) * y) := by
            have h1 := val_take_set out (i + (digs y).length) cr hko
            have h2 := HV.out
            rw [List.take_length, val_digs] at h2
            rw [Nat.add_right_comm, h1, Nat.pow_add, h2, HV1.out, Nat.add_mul, Nat.mul_assoc]; exact Lib.hid rfl
          go_wp2
          go_roundw
          case rel => exact ⟨i + 1, out.set (i + (digs y).length) cr, by omega, by go_num, Hid.len_set HL _ _, Hid.dg_set HDo _ (by rw [B_eq]; omega), HR, hOk.set' hko _ (by omega), hBk.setCell (Nat.le_refl _) _⟩
          case measure => simp [intOf]; omega
    · obtain rfl : i = (digs x).length := by omega
      have HF : Hid (val out0 = x * y) := by
        have h1 := HV.out
        rw [List.take_of_length_le (by rw [HL.out]; omega), List.take_length, val_digs] at h1
        exact h1
      clear HV
      go_wp2_with fail
      have hs := hOk.sl (c := (digs x).length + (digs y).length) (by rw [HL.out]; omega) (by unfold maxLen; omega)
      have hT := trim_at out0 HDo.out _ _ hs
      rw [HL.out, HF.out] at hT
      refine Calls.mono hT ?_
      rintro e w' ⟨v, rfl, hv, rfl⟩
      clear hT hs
      go_wp2
      go_ret
      exact ⟨_, rfl, hv, hBk⟩
end Nm
end Go.Proofs.YtmnmepbljegjeaaGreatDoor
namespace Go.Proofs.YtmnmepbljegjeaaGreatDoor
open Go.RowKit
theorem ext_alloc (w : World) (o : Obj) : Below w.heap.size w (w.alloc o) := (Below.refl _ _).alloc (Nat.le_refl _) _
/-- A block that may be written. -/
def Fre (W : World) (b : Nat) : Prop := ∀ j, W.frozen? ⟨b, j, none⟩ = false
theorem Fre.ext {W W' : World} {b : Nat} {A : Array Value} (h : Fre W b) (hA : Box W b A) (hb : Below W.heap.size W W') : Fre W' b :=
  fun j => (hb.frozen (p := ⟨b, j, none⟩) hA.1).trans (h j)
theorem Fre.new (w : World) (A : Array Value) (t : TypeId) : Fre (w.alloc (.cells A t)) w.heap.size := fun j => by simp
/-- A struct result's block alone. -/
theorem wp_box1r {P : Program} {c : Code} {Q : Exit → Act → World → Prop} {a : Act} {w : World} {A : Array Value} {t : TypeId}
    (h : ∀ W, W.heap.size = w.heap.size + 1 → Below w.heap.size w W → Box W w.heap.size A → Fre W w.heap.size → c.wp P Q a W) : c.wp P Q a (w.alloc (.cells A t)) :=
  h _ (by simp) ((Below.refl _ _).alloc (Nat.le_refl _) _) (Box.new _ _ _) (Fre.new _ _ _)
/-- One struct parameter, and a struct result. -/
theorem wp_box2r {P : Program} {c : Code} {Q : Exit → Act → World → Prop} {a : Act} {w : World} {A B : Array Value} {t u : TypeId}
    (h : ∀ W, W.heap.size = w.heap.size + 2 → Below w.heap.size w W → Box W w.heap.size A → Box W (w.heap.size + 1) B → Fre W (w.heap.size + 1) → c.wp P Q a W) : c.wp P Q a ((w.alloc (.cells A t)).alloc (.cells B u)) := by
  refine h _ (by simp) (by go_grown) ((Box.new _ _ _).ext (by go_grown)) ?_ ?_
  · have := Box.new (w.alloc (.cells A t)) B u
    simpa using this
  · have := Fre.new (w.alloc (.cells A t)) B u
    simpa using this
/-- Two struct parameters, and a struct result. -/
theorem wp_box3r {P : Program} {c : Code} {Q : Exit → Act → World → Prop} {a : Act} {w : World} {A B C : Array Value} {t u v : TypeId}
    (h : ∀ W, W.heap.size = w.heap.size + 3 → Below w.heap.size w W → Box W w.heap.size A → Box W (w.heap.size + 1) B → Box W (w.heap.size + 2) C → Fre W (w.heap.size + 2) → c.wp P Q a W) : c.wp P Q a (((w.alloc (.cells A t)).alloc (.cells B u)).alloc (.cells C v)) := by
  refine h _ (by simp) (by go_grown) (((Box.new _ _ _).ext (by go_grown)).ext (by go_grown)) ?_ ?_ ?_
  · have := Box.new (w.alloc (.cells A t)) B u
    exact Box.ext (by simpa using this) (by go_grown)
  · have := Box.new ((w.alloc (.cells A t)).alloc (.cells B u)) C v
    simpa using this
  · have := Fre.new ((w.alloc (.cells A t)).alloc (.cells B u)) C v
    simpa using this

/-- held: below B the world is W's, and two blocks read as they did -/
abbrev S2R (W : World) (B : Nat) (b1 : Nat) (A1 : Array Value) (b2 : Nat) (A2 : Array Value) (w' : World) : Prop :=
  Below B W w' ∧ (∀ j, w'.cell? ⟨b1, j, none⟩ = A1[j]?) ∧ (∀ j, w'.cell? ⟨b2, j, none⟩ = A2[j]?)
theorem S2R.start {W : World} {B b1 : Nat} {A1 : Array Value} {b2 : Nat} {A2 : Array Value} (h1 : Box W b1 A1) (h2 : Box W b2 A2) : S2R W B b1 A1 b2 A2 W.drew :=
  ⟨(Below.refl _ _).drew, h1.2, h2.2⟩
theorem S2R.ext {W w1 w2 : World} {B b1 : Nat} {A1 : Array Value} {b2 : Nat} {A2 : Array Value} (hb : Below w1.heap.size w1 w2) (h : S2R W B b1 A1 b2 A2 w1) (hB : B ≤ W.heap.size) (h1 : Box W b1 A1) (h2 : Box W b2 A2) : S2R W B b1 A1 b2 A2 w2 :=
  ⟨h.1.trans (hb.mono (Nat.le_trans hB h.1.size)), fun j => (hb.cell (p := ⟨b1, j, none⟩) (Nat.lt_of_lt_of_le h1.1 h.1.size)).trans (h.2.1 j), fun j => (hb.cell (p := ⟨b2, j, none⟩) (Nat.lt_of_lt_of_le h2.1 h.1.size)).trans (h.2.2 j)⟩
theorem S2R.set {W w1 : World} {B b1 : Nat} {A1 : Array Value} {b2 : Nat} {A2 : Array Value} {p : Addr} {v : Value} (h : S2R W B b1 A1 b2 A2 w1) (hp : B ≤ p.block) (h1 : b1 < B) (h2 : b2 < B) : S2R W B b1 A1 b2 A2 (w1.setCell p v) := by
  have hb : Below B w1 (w1.setCell p v) := (Below.refl _ _).setCell hp v
  exact ⟨h.1.trans hb, fun j => (hb.cell (p := ⟨b1, j, none⟩) h1).trans (h.2.1 j), fun j => (hb.cell (p := ⟨b2, j, none⟩) h2).trans (h.2.2 j)⟩

/-- Two cells of a block, written. -/
theorem two_set {w : World} {b : Nat} {u0 u1 : Value} (v0 v1 : Value) (h0 : w.cell? ⟨b, 0, none⟩ = some u0) (h1 : w.cell? ⟨b, 1, none⟩ = some u1) :
    ((w.setCell ⟨b, 0, none⟩ v0).setCell ⟨b, 1, none⟩ v1).cell? ⟨b, 0, none⟩ = some v0 ∧ ((w.setCell ⟨b, 0, none⟩ v0).setCell ⟨b, 1, none⟩ v1).cell? ⟨b, 1, none⟩ = some v1 := by
  have e1 : (w.setCell ⟨b, 0, none⟩ v0).cell? ⟨b, 1, none⟩ = some u1 := by rw [World.cell?_setCell_other _ _ _ _ (by simp)]; exact h1
  refine ⟨?_, ?_⟩
  · rw [World.cell?_setCell_other _ _ _ _ (by simp)]
    exact World.cell?_setCell_same _ _ _ h0
  · exact World.cell?_setCell_same _ _ _ e1

/-- The cells of a list of structs of sz cells each. -/
theorem flat_get {α : Type} {f : α → List Value} {sz : Nat} (hs : ∀ x, (f x).length = sz) : ∀ (l : List α) (k : Nat) (x : α), l[k]? = some x → ∀ j u, (f x)[j]? = some u → (l.flatMap f)[k * sz + j]? = some u
  | [], _, _, h, _, _, _ => by simp at h
  | y :: l, 0, x, h, j, u, hu => by
    obtain rfl : y = x := by simpa using h
    rw [List.flatMap_cons, Nat.zero_mul, Nat.zero_add, List.getElem?_append_left (List.getElem?_eq_some_iff.1 hu).1]; exact hu
  | y :: l, k + 1, x, h, j, u, hu => by
    have ih := flat_get hs l k x (by simpa using h) j u hu
    have e : (k + 1) * sz + j = (f y).length + (k * sz + j) := by rw [hs, Nat.add_mul]; omega
    rw [List.flatMap_cons, e, List.getElem?_append_right (by omega), ← ih]
    congr 1; omega
theorem flat_length {α : Type} {f : α → List Value} {sz : Nat} (hs : ∀ x, (f x).length = sz) (l : List α) : (l.flatMap f).length = l.length * sz := by
  induction l with
  | nil => simp
  | cons y l ih => rw [List.flatMap_cons, List.length_append, hs, ih, List.length_cons, Nat.add_mul]; omega
/-- An element of a slice of structs: where it lies, and its cells. -/
theorem Sl.elem {w : World} {a : Option Addr} {n c k : Nat} {α : Type} {f : α → List Value} {sz : Nat} {l : List α} {x : α} (s : Sl w (.slice a n c) n (l.flatMap f)) (hs : ∀ x, (f x).length = sz) (hsz : 0 < sz) (hx : l[k]? = some x) :
    ∃ b o, a = some ⟨b, o, none⟩ ∧ ∀ j u, (f x)[j]? = some u → w.cell? ⟨b, o + k * sz + j, none⟩ = some u := by
  obtain ⟨a', cap, hv, _, _, _, h3⟩ := s
  obtain ⟨rfl, _, _⟩ : a = a' ∧ True ∧ True := by cases hv; exact ⟨rfl, trivial, trivial⟩
  have h0 : 0 < (f x).length := by rw [hs]; exact hsz
  obtain ⟨b, o, rfl, _⟩ := h3 _ _ (flat_get hs l k x hx 0 _ (List.getElem?_eq_getElem h0))
  refine ⟨b, o, rfl, fun j u hu => ?_⟩
  obtain ⟨b', o', hb, hc⟩ := h3 _ _ (flat_get hs l k x hx j u hu)
  cases hb
  rw [Nat.add_assoc]; exact hc

/-- What the call owns stays owned where nothing that is there turns. -/
theorem ownsRow_ext {w w' : World} {base e size n : Nat} {v : Value} {xs : List Value} (h : w.ownsRow base e size v n xs) (hb : Below w.heap.size w w') : w'.ownsRow base e size v n xs := by
  obtain ⟨h1, h2⟩ := h
  refine ⟨h1, ?_⟩
  rcases h2 with h2 | ⟨g, cap, cur, hv, hbg, hg, h3⟩
  · exact .inl h2
  · refine .inr ⟨g, cap, cur, hv, hbg, ?_, h3⟩
    rw [hb.block g (Array.getElem?_eq_some_iff.1 hg).1]; exact hg
/-- A slice over a new block. -/
theorem Sl.new (w : World) (A : Array Value) (t : TypeId) (n cap : Nat) (h : n ≤ cap) (hm : cap ≤ maxLen) : Sl (w.alloc (.cells A t)) (.slice (some ⟨w.heap.size, 0, none⟩) n cap) n A.toList :=
  ⟨_, _, rfl, h, hm, (fun h => by cases h), fun i x hx => ⟨_, _, rfl, by simpa using hx⟩⟩

/-- append of something new at a step of a region that draws its order. -/
theorem step_append_new {P : Program} {w : World} {ops : Array Oper} {o : Oper} {a : Act} {K : Act → World → Prop} {Q : Exit → Act → World → Prop} {E : Prop} (hgd : o.guard = none) (s x : Operand) (t : TypeId)
    (ho : o.op = .call { callee := .builtin .append, args := #[s, x], argTypes := #[t, t] })
    (base : Nat) (e : TypeId) {z : Value} {size bytes : Nat} (ht : P.underlying t = some (.slice e)) (hinfo : (P.info? e).map (fun i => (i.zero, i.size, i.bytes)) = some (some z, size, bytes))
    (hzs : z.cells.size = size) (hsz : 0 < size)
    {v : Value} {n : Nat} {xs : List Value} (hs : a.eval s = v) (hown : w.ownsRow base e size v n xs)
    {ad : Addr} {m c : Nat} {news : List Value} (hx : a.eval x = .slice (some ad) m c) (hsl : Sl w (.slice (some ad) m c) m news) (hl : news.length = m * size) (h1 : ∀ u ∈ news, u.oneCell' = true)
    (h63 : n + m ≤ maxLen) (hbytes : (n + m) * bytes ≤ 140737488355328) (hbase : base ≤ w.heap.size)
    (h : ∀ v' w', w'.ownsRow base e size v' (n + m) (xs ++ news) → w.grownBy w' v.ownBlock → K (a.put o.dst v') w') :
    if Region.wanted o (yielded ops a.tmps) = true then Oper.wp P o a w K Q else E := by
  have hw : Region.wanted o (yielded ops a.tmps) = true := by simp [Region.wanted, hgd]
  rw [if_pos hw]
  obtain ⟨i, hi, hz0, hz1, hz2⟩ := info_parts hinfo
  rcases hsl.src with ⟨h0, _⟩ | ⟨ad', c', e', hnews⟩
  · cases h0
  · cases e'
    exact wp_append_own w s x t ho base e i z size bytes ht hi hz0 hz1 hz2 hzs hsz v n xs hs hown ad m c news hx hl hnews h1 h63 hbytes hbase (fun v' w' h2 h3 _ => h v' w' h2 h3)
theorem S2R.grown {W w1 w2 : World} {B b1 : Nat} {A1 : Array Value} {b2 : Nat} {A2 : Array Value} {row : Option Nat} (hg : w1.grownBy w2 row) (h : S2R W B b1 A1 b2 A2 w1) (hB : B ≤ W.heap.size) (h1 : Box W b1 A1) (h2 : Box W b2 A2)
    (hr : ∀ k, row = some k → B ≤ k ∧ k ≠ b1 ∧ k ≠ b2) : S2R W B b1 A1 b2 A2 w2 := by
  have l1 := Nat.lt_of_lt_of_le h1.1 h.1.size
  have l2 := Nat.lt_of_lt_of_le h2.1 h.1.size
  refine ⟨h.1.grown hg (Nat.le_trans hB h.1.size) (fun k e => (hr k e).1), fun j => ?_, fun j => ?_⟩
  · rw [World.cell?_of_block (w := w1) (hg.block b1 l1 (fun e => (hr b1 e.symm).2.1 rfl))]; exact h.2.1 j
  · rw [World.cell?_of_block (w := w1) (hg.block b2 l2 (fun e => (hr b2 e.symm).2.2 rfl))]; exact h.2.2 j
end Go.Proofs.YtmnmepbljegjeaaGreatDoor
namespace Go.Proofs.YtmnmepbljegjeaaGreatDoor
open Go.RowKit
namespace Nm
theorem wlen_one {n : Nat} (h : n < B) : wlen n ≤ 1 := wlen_le (by rw [Nat.pow_one]; exact h)
theorem wlen_pow {n : Nat} (h : n < B) : ∀ k, wlen (n ^ k) ≤ k + 1
  | 0 => by rw [Nat.pow_zero]; exact wlen_one (by decide)
  | k + 1 => by
    rw [Nat.pow_succ]
    have h1 := wlen_mul (n ^ k) n
    have h2 := wlen_pow h k
    have h3 := wlen_one h
    omega
set_option maxHeartbeats 1000000 in
theorem power_at (n to : Nat) (hn : n < 4294967296) (ht : to ≤ 1000000) (w : World) : Calls Tryz.prog 171 #[.int .i64 (n : Int), .int .i64 (to : Int)] w (NPost w (n ^ to)) := by
  have hx1 := xnatOf_at 1 (by decide) w
  rw [show ((1 : Nat) : Int) = 1 from rfl] at hx1
  have HX1 := Lib.hid hx1
  clear hx1
  go_enter Tryz.func171, Tryz.ntmps171
  go_wp2_with fail
  refine HX1.out.mono ?_
  rintro e w1 ⟨v, rfl, hv, hb1⟩
  go_wp2
  go_loopw [5, 8] (fun o i wr => ∃ k : Nat, k ≤ to ∧ i = .int .i64 k ∧ N wr o (n ^ k) ∧ Below w.heap.size w wr) (fun _ i _ => to - (intOf i).toNat)
  case atStart => exact ⟨0, by omega, rfl, by rw [Nat.pow_zero]; exact hv, hb1⟩
  case round =>
    obtain ⟨k, hk, rfl, ho, hb⟩ := hrel
    clear hv hb1
    by_cases hlt : k < to
    · go_wp2_with fail
      refine (xnatOf_at n (by omega) _).mono ?_
      rintro e w2 ⟨v2, rfl, h2, hb2⟩
      have h1 := wlen_pow (show n < B from hn) k
      have h3 := wlen_one (show n < B from hn)
      go_wp2_with fail
      refine (times_at (n ^ k) n _ _ _ (ho.ext hb2) h2 (by omega) (by omega)).mono ?_
      rintro e w3 ⟨v3, rfl, h4, hb3⟩
      have hb4 := ext_trans (ext_trans hb hb2) hb3
      clear ho h2 hb2 hb3 hb
      go_wp2
      go_roundw
      case rel => exact ⟨k + 1, by omega, by go_num, by rw [Nat.pow_succ]; exact h4, hb4⟩
      case measure => simp [intOf]; omega
    · have hkt : k = to := by omega
      subst hkt
      go_wp2
      go_ret
      exact ⟨_, rfl, ho, hb⟩
end Nm
end Go.Proofs.YtmnmepbljegjeaaGreatDoor
namespace Go.Proofs.YtmnmepbljegjeaaGreatDoor
open Go.RowKit
namespace Nm
/-- the sum of the first capitals -/
def capS (bets up down : Nat) : Nat → Nat
  | 0 => 0
  | k + 1 => capS bets up down k + (bets + 1 + (k + 1)) ^ up * (bets + 1 - (k + 1)) ^ down
def capN (bets up down : Nat) : Nat := capS bets up down bets
/-- a bettor as it lies in five cells -/
abbrev betA (d k : Int) (b : Bool) (a1 : Option Addr) (n1 c1 : Nat) (a2 : Option Addr) (n2 c2 : Nat) : Array Value := #[.int .i64 d, .int .i64 k, .bool b, .slice a1 n1 c1, .slice a2 n2 c2]
theorem power_is (z t : Int) (n to : Nat) (hz : z = (n : Int)) (ht : t = (to : Int)) (hn : n < 4294967296) (hto : to ≤ 1000000) (w : World) : Calls Tryz.prog 171 #[.int .i64 z, .int .i64 t] w (NPost w (n ^ to)) := by
  subst hz ht; exact power_at n to hn hto w
theorem cap_term {n m up down : Nat} (hn : n ≤ 11) (hm : m ≤ 11) (hu : up ≤ 60) (hd : down ≤ 60) : n ^ up * m ^ down ≤ 11 ^ 120 := by
  have h1 : n ^ up ≤ 11 ^ 60 := Nat.le_trans (Nat.pow_le_pow_left hn up) (Nat.pow_le_pow_right (by decide) hu)
  have h2 : m ^ down ≤ 11 ^ 60 := Nat.le_trans (Nat.pow_le_pow_left hm down) (Nat.pow_le_pow_right (by decide) hd)
  rw [show (11 : Nat) ^ 120 = 11 ^ 60 * 11 ^ 60 from by decide]; exact Nat.mul_le_mul h1 h2
theorem capS_le (bets up down : Nat) (hb : bets ≤ 5) (hu : up ≤ 60) (hd : down ≤ 60) : ∀ k, k ≤ bets → capS bets up down k ≤ k * 11 ^ 120
  | 0, _ => by rw [show capS bets up down 0 = 0 from rfl]; exact Nat.zero_le _
  | k + 1, hk => by
    have h1 := capS_le bets up down hb hu hd k (by omega)
    have h2 := cap_term (n := bets + 1 + (k + 1)) (m := bets + 1 - (k + 1)) (by omega) (by omega) hu hd
    rw [Nat.add_mul, Nat.one_mul]
    exact Nat.add_le_add h1 h2
theorem capS_wlen (bets up down : Nat) (hb : bets ≤ 5) (hu : up ≤ 60) (hd : down ≤ 60) (k : Nat) (hk : k ≤ bets) : wlen (capS bets up down k) ≤ 14 := by
  apply wlen_le
  refine Nat.lt_of_le_of_lt (capS_le bets up down hb hu hd k hk) (Nat.lt_of_le_of_lt (Nat.mul_le_mul_right _ (show k ≤ 5 by omega)) ?_)
  decide
set_option maxHeartbeats 4000000 in
theorem capitals_at (d : Int) (bets up down : Nat) (hbt : bets ≤ 5) (hu : up ≤ 60) (hd : down ≤ 60) (b : Bool) (a1 : Option Addr) (n1 c1 : Nat) (a2 : Option Addr) (n2 c2 : Nat) (w : World) :
    Calls Tryz.prog 170 #[.agg (betA d bets b a1 n1 c1 a2 n2 c2), .int .i64 (up : Int), .int .i64 (down : Int)] w (NPost w (capN bets up down)) := by
  have hx1 := fun w => xnatOf_at 0 (by decide) w
  rw [show ((0 : Nat) : Int) = 0 from rfl] at hx1
  have HX1 := Lib.hid hx1
  clear hx1
  go_enter Tryz.func170, Tryz.ntmps170
  go_upto_region 1 with (fail)
  refine wp_box1 fun W hsz hbW hA => ?_
  clear hsz
  go_wp2_with fail
  refine (HX1.out _).mono ?_
  rintro e w1 ⟨v, rfl, hv, hb1⟩
  have hA1 := hA.ext hb1
  have hbw1 := ext_trans hbW hb1
  clear hb1 hA hbW
  go_wp2
  go_loopw [7, 8] (fun o i wr => ∃ k : Nat, k ≤ bets ∧ i = .int .i64 ((k + 1 : Nat) : Int) ∧ N wr o (capS bets up down k) ∧ Box wr w.heap.size (betA d bets b a1 n1 c1 a2 n2 c2) ∧ Below w.heap.size w wr) (fun _ i _ => bets + 1 - (intOf i).toNat)
  case atStart => exact ⟨0, by omega, rfl, hv, hA1, hbw1⟩
  case round =>
    obtain ⟨k, hk, rfl, ho, hB, hb⟩ := hrel
    clear hv hA1 hbw1
    obtain ⟨_, hB2⟩ := id hB
    have q1 : wr.cell? ⟨w.heap.size, 1, none⟩ = some (.int .i64 bets) := hB2 1
    clear hB2
    by_cases hlt : k < bets
    · have hwl := capS_wlen bets up down hbt hu hd k hk
      have hwp1 := wlen_pow (show bets + 1 + (k + 1) < B from by unfold B; omega) up
      have hwp2 := wlen_pow (show bets + 1 - (k + 1) < B from by unfold B; omega) down
      have hwm := wlen_mul ((bets + 1 + (k + 1)) ^ up) ((bets + 1 - (k + 1)) ^ down)
      have HW := Lib.hid (And.intro hwl (And.intro hwp1 (And.intro hwp2 hwm)))
      clear hwl hwp1 hwp2 hwm
      have HS : Hid (capS bets up down k + (bets + 1 + (k + 1)) ^ up * (bets + 1 - (k + 1)) ^ down = capS bets up down (k + 1)) := rfl
      have e1 : IntKind.i64.wrap ((bets : Int) + 1) = (bets : Int) + 1 := IntWalk.i64_in _ (by omega)
      have e2 : IntKind.i64.wrap ((bets : Int) + 1 + ((k : Int) + 1)) = (bets : Int) + 1 + ((k : Int) + 1) := IntWalk.i64_in _ (by omega)
      have e3 : IntKind.i64.wrap ((bets : Int) + 1 - ((k : Int) + 1)) = (bets : Int) + 1 - ((k : Int) + 1) := IntWalk.i64_in _ (by omega)
      have HO := Lib.hid ho
      have tok1 : True := trivial
      go_wp2_with fail
      generalize hX : wr = X at *
      clear hX
      go_region_held3 (S2R X w.heap.size w.heap.size (betA d bets b a1 n1 c1 a2 n2 c2) w.heap.size (betA d bets b a1 n1 c1 a2 n2 c2)) (first | exact S2R.start hB hB | exact S2R.ext (by with_reducible assumption) (by with_reducible assumption) (by omega) hB hB | assumption) (first | (have _t := tok1; go_at_call 171; refine (power_is _ _ (bets + 1 + (k + 1)) up (by omega) rfl (by omega) (by omega) _).mono ?_; rintro e w2 ⟨v2, rfl, h2, hb2⟩; have hc2 := Lib.hid (ext_trans (Below.refl X.heap.size X).drew hb2); have H2 := Lib.hid h2; clear tok1 h2) | (go_at_call 171; refine (power_is _ _ (bets + 1 - (k + 1)) down (by omega) rfl (by omega) (by omega) _).mono ?_; rintro e w3 ⟨v3, rfl, h3, hb3⟩; have hc3 := Lib.hid (ext_trans hc2.out hb3); have H23 := Lib.hid (H2.out.ext hb3); have H3 := Lib.hid h3; clear h3) | (go_at_call 93; refine (times_at _ _ _ _ _ H23.out H3.out (by have := HW.out; omega) (by have := HW.out; omega)).mono ?_; rintro e w4 ⟨v4, rfl, h4, hb4⟩; have hc4 := Lib.hid (ext_trans hc3.out hb4); have H4 := Lib.hid h4; clear h4) | (go_at_call 94; refine (add_at _ _ _ _ _ (HO.out.ext hc4.out) H4.out (by have := HW.out; omega) (by have := HW.out; omega)).mono ?_; rintro e w5 ⟨v5, rfl, h5, hb5⟩; have hc5 := Lib.hid (ext_trans hc4.out hb5); have H5 := Lib.hid h5; clear h5))
      go_wp2
      go_roundw
      case rel => exact ⟨k + 1, by omega, by go_num, by rw [← HS.out]; exact H5.out, hB.ext hc5.out, ext_trans hb hc5.out⟩
      case measure => simp [intOf]; omega
    · have hkb : k = bets := by omega
      subst hkb
      go_wp2
      go_ret
      exact ⟨_, rfl, ho, hb⟩
end Nm
end Go.Proofs.YtmnmepbljegjeaaGreatDoor
