/- Slices of slices that are read as data, with how long each can be; plans. slices.Grow and slices.Concat at [][]api.Trial. -/
import Derived.Test.YtmnmepbljegjeaaGreatDoorBa00
import Derived.Test.YtmnmepbljegjeaaGreatDoorBa62
import Derived.Test.YtmnmepbljegjeaaGreatDoorProg
namespace Go.Proofs.YtmnmepbljegjeaaGreatDoor
open Go.RowKit _root_.Go.Proofs.YtmnmepbljegjeaaGreatDoor.Nm
theorem weights_in_all {H : Type} {P : Program} {e : TypeId} : ∀ {els : List (DataW H)} {d : DataW H}, d ∈ els → ∀ n ∈ d.weights P e, n ∈ DataW.weightsAll P e els
  | [], _, h, _, _ => by cases h
  | x :: r, d, h, n, hn => by
    simp only [DataW.weightsAll, List.mem_append]
    rcases List.mem_cons.1 h with rfl | h
    · exact .inl hn
    · exact .inr (weights_in_all h n hn)
theorem elem_sized {H : Type} {P : Program} {ts : List TypeId} {ds : List (DataW H)} (hsz : (DataW.weightsEach P ts ds).all (· ≤ reachBytes) = true) {j : Nat} {t e : TypeId} {els sp : List (DataW H)} (ht : P.underlying t = some (.slice e)) (hj : ts[j]? = some t) (hd : ds[j]? = some (.slice els sp)) {y : DataW H} (hy : y ∈ els) : ∀ n ∈ y.weights P e, n ≤ reachBytes := by
  intro n hn
  have h := List.all_eq_true.1 hsz n (DataW.weights_mem_each hj hd n (by simp only [DataW.weights, ht]; exact List.mem_cons_of_mem _ (List.mem_append_left _ (weights_in_all hy n hn))))
  simpa using h
theorem inner_len {H : Type} {enc : TypeId × Value → H} {P : Program} {W : World} {spare : Nat → Bool} {held : Bool} {e e' : TypeId} {fuel : Nat} {a : Option Addr} {n cap : Nat} {y : DataW H × List MemPlace} (he : P.underlying e = some (.slice e')) (h : DataW.trod enc P W 0 spare held fuel e [.slice a n cap] = some y) (hw : ∀ m ∈ y.1.weights P e, m ≤ reachBytes) : n * P.bytesOf e' ≤ reachBytes := by
  rcases DataW.trod_slice he h with ⟨hc, _⟩ | ⟨a', len, cap', elems, rest, m, hn, hc, hx, hb, hl, hm, hlen, hel', _⟩
  · cases hc; simp
  · cases hc
    have h1 := hw ((elems.length + rest.length) * P.bytesOf e') (by rw [hx]; simp only [DataW.weights, he, List.length_map]; exact List.mem_cons_self ..)
    rw [hlen] at h1
    exact Nat.le_trans (Nat.mul_le_mul_right _ (Nat.le_add_right _ _)) h1
/-- A slice that is read as data, out of how its elements are read, each of which is among the data. -/
theorem read_slice_mem {H : Type} {enc : TypeId × Value → H} {P : Program} {W : World} {spare : Nat → Bool} {held : Bool} {α : Type} {R : α → List Value → Prop} {sz : Nat} (hs : ∀ x c, R x c → c.length = sz)
    {t e : TypeId} {fuel : Nat} {cs : List Value} {x : DataW H × List MemPlace} (ht : P.underlying t = some (.slice e)) (hC : P.cellsOf e = sz) (hsz : 0 < sz)
    (hel : ∀ n cs' y, DataW.trod enc P W 0 spare held n e cs' = some y → (∃ els sp, x.1 = .slice els sp ∧ y.1 ∈ els) → ∃ a, R a cs')
    (h : DataW.trod enc P W 0 spare held fuel t cs = some x) : ∃ (a : Option Addr) (l : List α) (cap : Nat) (cells : List Value), cs = [.slice a l.length cap] ∧ Sl W (.slice a l.length cap) l.length cells ∧ Reps R l cells := by
  rcases DataW.trod_slice ht h with ⟨rfl, _⟩ | ⟨a, len, cap, elems, rest, n, hn, rfl, hx, hb, hl, hm, hlen, hel', _⟩
  · exact ⟨none, [], 0, [], rfl, Sl.nil W, rfl⟩
  · rw [hC] at hel'
    have hget : ∀ i, i < len → ∃ c, (∀ j u, c[j]? = some u → W.cell? ((a.add (i * sz)).add j) = some u) ∧ ∃ y, R y c := by
      intro i hi
      have h1 := hel' i hi
      have hi' : i < elems.length := by omega
      rw [List.getElem?_eq_getElem hi'] at h1
      obtain ⟨c, hc, htr⟩ := Option.bind_eq_some_iff.1 h1
      obtain ⟨_, hcl, hat⟩ := World.cells?_some hc
      refine ⟨c, fun j u hu => ?_, hel n c _ htr ⟨_, _, by rw [hx], List.mem_map.2 ⟨elems[i], List.getElem_mem hi', rfl⟩⟩⟩
      rw [hat j (by have := (List.getElem?_eq_some_iff.1 hu).1; omega)]; exact hu
    have hget' : ∀ i, ∃ c, i < len → (∀ j u, c[j]? = some u → W.cell? ((a.add (i * sz)).add j) = some u) ∧ ∃ y, R y c := by
      intro i
      by_cases hi : i < len
      · obtain ⟨c, hc⟩ := hget i hi; exact ⟨c, fun _ => hc⟩
      · exact ⟨[], fun h => (hi h).elim⟩
    obtain ⟨f, hf⟩ := Classical.axiomOfChoice hget'
    obtain ⟨l, hll, hr, hg⟩ := elems_reps hs f len (fun i hi => (hf i hi).2)
    refine ⟨some a, l, cap, _, by rw [hll], ⟨_, _, rfl, by omega, hm, (fun h => by cases h), fun i u hu => ?_⟩, hr⟩
    have hrl := Reps.length hs hr
    have hi : i < len * sz := by have := (List.getElem?_eq_some_iff.1 hu).1; rw [hll] at hrl; omega
    have hid : i / sz < len := Nat.div_lt_of_lt_mul (by rw [Nat.mul_comm]; exact hi)
    obtain ⟨y, hy⟩ := (hf _ hid).2
    have hfl := hs _ _ hy
    have hj : i % sz < (f (i / sz)).length := by rw [hfl]; exact Nat.mod_lt _ hsz
    have h2 := hg _ hid _ _ (List.getElem?_eq_getElem hj)
    rw [Nat.div_add_mod' i sz, hu] at h2
    have hcell := (hf _ hid).1 _ _ (List.getElem?_eq_getElem hj)
    have h0 : 0 < len := Nat.lt_of_le_of_lt (Nat.zero_le _) hid
    obtain ⟨y0, hy0⟩ := (hf 0 h0).2
    have hj0 : 0 < (f 0).length := by rw [hs _ _ hy0]; exact hsz
    have hc0 := (hf 0 h0).1 _ _ (List.getElem?_eq_getElem hj0)
    rw [Nat.zero_mul] at hc0
    have ha : a = ⟨a.block, a.off, none⟩ := by
      have e : (a.add 0).add 0 = a := by simp [Addr.add]
      rw [e] at hc0
      exact addr_of_cell hc0
    refine ⟨a.block, a.off, by rw [← ha], ?_⟩
    rw [ha, add_add_none, Nat.div_add_mod' i sz] at hcell
    rw [hcell, Option.some.inj h2]
theorem flat_of {α : Type} {cellsF : α → List Value} {okF : α → Prop} : ∀ {l : List α} {cs : List Value}, Reps (fun s c => c = cellsF s ∧ okF s) l cs → cs = l.flatMap cellsF ∧ ∀ e ∈ l, okF e
  | [], _, h => ⟨h, fun _ h => by cases h⟩
  | _ :: _, _, ⟨c, r, e, h1, h2⟩ => by
    subst e; obtain ⟨h1, ho⟩ := h1; subst h1
    obtain ⟨i1, i2⟩ := flat_of h2
    exact ⟨by rw [List.flatMap_cons, i1], fun x hx => (List.mem_cons.1 hx).elim (fun h => h ▸ ho) (i2 x)⟩
/-- [][]Trial, read as data: the outer slice's cells, each inner slice, and how long it can be -/
theorem read_TrialRows {H : Type} {enc : TypeId × Value → H} {W : World} {spare : Nat → Bool} {held : Bool} {ts : List TypeId} {ds : List (DataW H)} (hsz : (DataW.weightsEach Tryz.prog ts ds).all (· ≤ reachBytes) = true) {j : Nat} {fuel : Nat} {cs : List Value} {x : DataW H × List MemPlace}
    (hj : ts[j]? = some 80) (hd : ds[j]? = some x.1) (h : DataW.trod enc Tryz.prog W 0 spare held fuel 80 cs = some x) :
    ∃ (a : Option Addr) (svs : List SV) (ls : List (List Tri)) (cap : Nat), cs = [.slice a svs.length cap] ∧ Sl W (.slice a svs.length cap) svs.length (svs.flatMap svL) ∧ RowsOf W triL svs ls ∧ (∀ sv ∈ svs, sv.n * 16 ≤ 140737488351232) ∧ svs.length * 24 ≤ 140737488351232 := by
  obtain ⟨a, l, cap, cells, e0, s0, rp⟩ := read_slice_mem (R := fun (s : SV × List Tri) c => c = svL s.1 ∧ (s.1.n = s.2.length ∧ Sl W (.slice s.1.a s.1.n s.1.c) s.1.n (s.2.flatMap triL) ∧ s.1.n * 16 ≤ 140737488351232)) (sz := 1) (by rintro x c ⟨rfl, _⟩; rfl) Tryz.underlying80 (by kernel_rfl) (by omega)
    (fun n cs' y ht hm => by
      obtain ⟨a', l', cap', cells', e1, s1, rp1⟩ := read_slice (R := fun (s : Tri) c => c = triL s ∧ True) (sz := 2) (by rintro x c ⟨rfl, _⟩; rfl) Tryz.underlying38 (by kernel_rfl) (by omega) (fun n cs' y _ ht => by obtain ⟨k0, k1, e, _⟩ := read_Trial _ _ _ ht; exact ⟨⟨k0, k1⟩, e, trivial⟩) ht
      obtain ⟨hc, _⟩ := flat_of rp1
      rw [hc] at s1
      obtain ⟨els, sp, hx, hy⟩ := hm
      rw [hx] at hd
      rw [e1] at ht
      have hl := inner_len Tryz.underlying38 ht (elem_sized hsz Tryz.underlying80 hj hd hy)
      rw [show Tryz.prog.bytesOf 44 = 16 by kernel_rfl] at hl
      simp only [reachBytes] at hl
      exact ⟨(⟨a', l'.length, cap'⟩, l'), e1, rfl, s1, hl⟩) h
  have hsl := slice_sized hsz Tryz.underlying80 hj hd h e0
  rw [show Tryz.prog.bytesOf 38 = 24 by kernel_rfl] at hsl
  simp only [reachBytes] at hsl
  obtain ⟨hc, ho⟩ := flat_of (cellsF := fun (s : SV × List Tri) => svL s.1) rp
  have e : l.flatMap (fun (s : SV × List Tri) => svL s.1) = (l.map Prod.fst).flatMap svL := by rw [List.flatMap_map]
  rw [hc, e] at s0
  have hl : (l.map Prod.fst).length = l.length := List.length_map _
  refine ⟨a, l.map Prod.fst, l.map Prod.snd, cap, by rw [hl]; exact e0, by rw [hl]; exact s0, ⟨by simp, fun i sv t h1 h2 => ?_⟩, fun sv hsv => ?_, by rw [hl]; exact hsl⟩
  · rw [List.getElem?_map] at h1 h2
    cases hg : l[i]? with
    | none => rw [hg] at h1; cases h1
    | some p =>
      rw [hg] at h1 h2
      cases h1; cases h2
      exact ⟨(ho p (List.mem_of_getElem? hg)).1, (ho p (List.mem_of_getElem? hg)).2.1⟩
  · obtain ⟨p, hp, rfl⟩ := List.mem_map.1 hsv
    exact (ho p hp).2.2
theorem read_Plan {H : Type} {enc : TypeId × Value → H} {W : World} {spare : Nat → Bool} {held : Bool} (fuel : Nat) (cs : List Value) (x : DataW H × List MemPlace) (h : DataW.trod enc Tryz.prog W 0 spare held fuel 79 cs = some x) :
    ∃ (x0 x1 : Int) (x2 x3 : ByteArray) (a : Option Addr) (gs : List RT) (cap : Nat), cs = [.int .i64 x0, .int .i64 x1, .string x2, .string x3, .slice a gs.length cap] ∧ x2.size ≤ maxLen ∧ x3.size ≤ maxLen ∧ Sl W (.slice a gs.length cap) gs.length (gs.flatMap rtL) ∧ ∀ r ∈ gs, rtOk r := by
  obtain ⟨xs, n, rfl, _, hlen, hxl, hf⟩ := DataW.trod_struct Tryz.underlying79 h
  rw [show Tryz.prog.cellsOf 79 = 5 by kernel_rfl] at hlen
  obtain ⟨c0, r0, rfl, l0⟩ := uncons hlen
  obtain ⟨c1, r1, rfl, l1⟩ := uncons l0
  obtain ⟨c2, r2, rfl, l2⟩ := uncons l1
  obtain ⟨c3, r3, rfl, l3⟩ := uncons l2
  obtain ⟨c4, r4, rfl, l4⟩ := uncons l3
  obtain rfl := List.length_eq_zero_iff.1 l4
  have hx : ∀ i, i < 4 → ∃ y, xs[i]? = some y := fun i hi => ⟨_, List.getElem?_eq_getElem (by rw [hxl]; exact hi)⟩
  have f0 : DataW.trod enc Tryz.prog W 0 spare held n 3 (List.take (Tryz.prog.cellsOf 3) (List.drop 0 [c0, c1, c2, c3, c4])) = xs[0]? := hf 0 _ rfl
  rw [show Tryz.prog.cellsOf 3 = 1 by kernel_rfl] at f0
  simp only [List.drop, List.take] at f0
  obtain ⟨y0, e0⟩ := hx 0 (by omega)
  rw [e0] at f0
  obtain ⟨x0, h0, _⟩ := DataW.trod_int Tryz.underlying3 f0
  have f1 : DataW.trod enc Tryz.prog W 0 spare held n 3 (List.take (Tryz.prog.cellsOf 3) (List.drop 1 [c0, c1, c2, c3, c4])) = xs[1]? := hf 1 _ rfl
  rw [show Tryz.prog.cellsOf 3 = 1 by kernel_rfl] at f1
  simp only [List.drop, List.take] at f1
  obtain ⟨y1, e1⟩ := hx 1 (by omega)
  rw [e1] at f1
  obtain ⟨x1, h1, _⟩ := DataW.trod_int Tryz.underlying3 f1
  have f2 : DataW.trod enc Tryz.prog W 0 spare held n 23 (List.take (Tryz.prog.cellsOf 23) (List.drop 2 [c0, c1, c2, c3, c4])) = xs[2]? := hf 2 _ rfl
  rw [show Tryz.prog.cellsOf 23 = 2 by kernel_rfl] at f2
  simp only [List.drop, List.take] at f2
  obtain ⟨y2, e2⟩ := hx 2 (by omega)
  rw [e2] at f2
  obtain ⟨x2, x3, h2, w2, w3⟩ := read_Ratio _ _ _ f2
  have f3 : DataW.trod enc Tryz.prog W 0 spare held n 51 (List.take (Tryz.prog.cellsOf 51) (List.drop 4 [c0, c1, c2, c3, c4])) = xs[3]? := hf 3 _ rfl
  rw [show Tryz.prog.cellsOf 51 = 1 by kernel_rfl] at f3
  simp only [List.drop, List.take] at f3
  obtain ⟨y3, e3⟩ := hx 3 (by omega)
  rw [e3] at f3
  obtain ⟨a, l, cap, cells, e4, s4, rp⟩ := read_slice (R := fun (s : RT) c => c = rtL s ∧ rtOk s) (sz := 2) (by rintro x c ⟨rfl, _⟩; rfl) Tryz.underlying51 (by kernel_rfl) (by omega)
    (fun n cs' y _ ht => by obtain ⟨k0, k1, e, o0, o1⟩ := read_Ratio _ _ _ ht; exact ⟨⟨k0, k1⟩, e, o0, o1⟩) f3
  obtain ⟨hc, ho⟩ := flat_of rp
  rw [hc] at s4
  cases h0
  cases h1
  cases h2
  cases e4
  exact ⟨x0, x1, x2, x3, a, l, cap, rfl, w2, w3, s4, ho⟩
end Go.Proofs.YtmnmepbljegjeaaGreatDoor
namespace Go.Proofs.YtmnmepbljegjeaaGreatDoor
open Go.RowKit
namespace CCCatL
theorem e_bytes : Tryz.t38.bytes = 24 := by kernel_rfl
theorem e_info : (Tryz.prog.info? 38).map (fun i => (i.zero, i.size, i.bytes)) = some (some (.slice none 0 0), 1, 24) := by kernel_rfl
def cells (l : List SV) : List Value := l.flatMap svL
theorem cells_append (l m : List SV) : cells (l ++ m) = cells l ++ cells m := List.flatMap_append
theorem cells_length (l : List SV) : (cells l).length = l.length * 1 := flat_length (f := svL) (sz := 1) (fun _ => rfl) l
theorem cells_one (l : List SV) : ∀ u ∈ cells l, u.oneCell' = true := by
  intro u hu
  simp only [cells, List.mem_flatMap] at hu
  obtain ⟨x, _, hx⟩ := hu
  simp only [svL, List.mem_cons, List.not_mem_nil, or_false] at hx
  rcases hx with rfl
  rfl
/-- What Grow(nil, n) leaves: a new array with room for n elements. -/
def GrowPost (w : World) (n : Nat) (e : Ending) (w' : World) : Prop :=
  ∃ cap, e = .returned (.slice (some ⟨w.heap.size, 0, none⟩) 0 cap) ∧ n ≤ cap ∧ w'.ownsRow w.heap.size 38 1 (.slice (some ⟨w.heap.size, 0, none⟩) 0 cap) 0 [] ∧ Below w.heap.size w w'
theorem nextcap (n : Nat) (h : 0 < n) : Builtin.nextslicecap n 0 = n := by unfold Builtin.nextslicecap; rw [if_pos (by omega)]
theorem grow_post (w : World) (n cap : Nat) (hn : n ≤ cap) (hm : cap ≤ maxLen) :
    GrowPost w n (.returned (.slice (some ⟨w.heap.size, 0, none⟩) 0 cap)) (w.alloc (Obj.cells (Builtin.zeroCells #[.slice none 0 0] n ++ Builtin.zeroCells #[.slice none 0 0] (cap - n)) 38)).drew := by
  refine ⟨cap, rfl, hn, ?_, by go_grown⟩
  exact World.ownsRow.drew (World.ownsRow_made w _ cap (Nat.le_refl _) hm (by simp [size_zeroCells]; omega))
set_option maxHeartbeats 1000000 in
set_option maxRecDepth 100000 in
theorem grow_some (n : Nat) (hn : 0 < n) (hn' : n ≤ 11728124029610) (w : World) :
    Calls Tryz.prog 181 #[.slice none 0 0, .int .i64 n] w (GrowPost w n) := by
  have hb := e_bytes
  have hx := nextcap n hn
  have hc1 := grownCap_ge w n 0 38
  have hc2 := grownCap_le_maxLen w n 0 38 (by unfold maxLen; omega)
  unfold grownCap at hc1 hc2
  go_enter Tryz.func181, Tryz.ntmps181
  go_wp2
  all_goals first | (exfalso; simp_all; omega) | skip
  go_ret
  exact grow_post w n _ hc1 hc2
theorem grow_none (w : World) :
    Calls Tryz.prog 181 #[.slice none 0 0, .int .i64 0] w fun e w' => e = .returned (.slice none 0 0) ∧ w = w' := by
  go_enter Tryz.func181, Tryz.ntmps181
  go_wp2
  go_ret
  exact ⟨rfl, rfl⟩
def tot (L : Nat → Nat) : Nat → Nat
  | 0 => 0
  | k + 1 => tot L k + L k
def cat {α : Type} (ls : Nat → List α) : Nat → List α
  | 0 => []
  | k + 1 => cat ls k ++ ls k
theorem tot_mono (L : Nat → Nat) {j k : Nat} (h : j ≤ k) : tot L j ≤ tot L k := by
  induction h with
  | refl => exact Nat.le_refl _
  | step _ ih => exact Nat.le_trans ih (Nat.le_add_right _ _)
theorem cat_length {α : Type} (ls : Nat → List α) (L : Nat → Nat) (n : Nat) (h : ∀ i, i < n → (ls i).length = L i) : (cat ls n).length = tot L n := by
  induction n with
  | zero => rfl
  | succ k ih => simp only [cat, tot, List.length_append]; rw [ih (fun i hi => h i (by omega)), h k (by omega)]
def CatPost (w : World) (l : List SV) (e : Ending) (w' : World) : Prop :=
  ∃ a cap, e = .returned (.slice a l.length cap) ∧ Sl w' (.slice a l.length cap) l.length (cells l) ∧ w'.ownsRow w.heap.size 38 1 (.slice a l.length cap) l.length (cells l) ∧ Below w.heap.size w w'
theorem own_slice {w : World} {base n : Nat} {v : Value} {xs : List Value} (h : w.ownsRow base 38 1 v n xs) : ∃ a cap, v = .slice a n cap := by
  obtain ⟨h1, ⟨rfl, rfl⟩ | ⟨g, cap, cur, rfl, _⟩⟩ := h
  · exact ⟨none, 0, rfl⟩
  · exact ⟨_, cap, rfl⟩
set_option maxHeartbeats 1000000 in
set_option maxRecDepth 100000 in
theorem cat_any (b o n cap : Nat) (A : Nat → Option Addr) (L C : Nat → Nat) (ls : Nat → List SV) (w : World) (hn : n ≤ 9223372036854775807)
    (hcell : ∀ i, i < n → w.cell? ⟨b, o + i, none⟩ = some (.slice (A i) (L i) (C i)))
    (hsl : ∀ i, i < n → Sl w (.slice (A i) (L i) (C i)) (L i) (cells (ls i))) (hlen : ∀ i, i < n → (ls i).length = L i)
    (htot : tot L n ≤ 11728124029610) :
    Calls Tryz.prog 136 #[.slice (some ⟨b, o, none⟩) n cap] w (CatPost w (cat ls n)) := by
  have HC := Lib.hid hcell
  have HS := Lib.hid hsl
  have HL := Lib.hid hlen
  have HB := Lib.hid e_info
  clear hcell hsl hlen
  go_enter Tryz.func136, Tryz.ntmps136
  go_wp2
  go_loop [3, 5, 11] (fun t _ i => ∃ k : Nat, k ≤ n ∧ i = .int .i64 k ∧ t = .int .i64 (tot L k)) (fun _ _ i => n - (intOf i).toNat)
  case atStart => exact ⟨0, by omega, rfl, rfl⟩
  case round =>
    obtain ⟨k, hk, rfl, rfl⟩ := hrel
    have hm := tot_mono L hk
    by_cases hlt : k < n
    · have hc := HC.out k hlt
      have hm2 := tot_mono L (show k + 1 ≤ n by omega)
      simp only [tot] at hm2
      go_wp2
      go_round
      case rel => exact ⟨k + 1, by omega, by go_num, by simp only [tot]; go_num⟩
      case measure => simp [intOf]; omega
    · have hkn : k = n := by omega
      subst hkn
      by_cases h0 : 0 < tot L k
      · go_wp2_with fail
        refine (grow_some _ h0 htot _).mono ?_
        rintro e w1 ⟨cap1, rfl, hcap, hown, hb1⟩
        go_wp2
        go_loopw [6, 8, 27] (fun v _ i wr => ∃ j : Nat, j ≤ k ∧ i = .int .i64 j ∧ v = .slice (some ⟨w.heap.size, 0, none⟩) (tot L j) cap1 ∧ wr.ownsRow w.heap.size 38 1 (.slice (some ⟨w.heap.size, 0, none⟩) (tot L j) cap1) (tot L j) (cells (cat ls j)) ∧ Below w.heap.size w wr) (fun _ _ i _ => k - (intOf i).toNat)
        case atStart => exact ⟨0, by omega, rfl, rfl, hown, hb1⟩
        case round =>
          obtain ⟨j, hj, rfl, rfl, hownj, hbj⟩ := hrel
          by_cases hjk : j < k
          · have hc := cell_later hbj (HC.out j hjk)
            have hs := (HS.out j hjk).ext hbj
            have hlj := HL.out j hjk
            have hm2 := tot_mono L (show j + 1 ≤ k by omega)
            simp only [tot] at hm2
            have HLJ := Lib.hid hlj
            clear hlj
            go_wp2_with (at_builtin; refine wpList_append_spare_sl rfl _ _ 80 rfl w.heap.size 38 Tryz.underlying80 HB.out rfl hownj rfl hs ?c1 (cells_one _) ?c2 ?_; rotate_left 2; intro w2 hown2 hg2)
            case c1 => rw [cells_length, HLJ.out]
            case c2 => omega
            rw [← cells_append] at hown2
            have hb2 := hbj.grown hg2 hbj.size (fun k e => by cases e; exact Nat.le_refl _)
            go_wp2
            go_roundw
            case rel => exact ⟨j + 1, by omega, by go_num, rfl, hown2, hb2⟩
            case measure => simp [intOf]; omega
          · have hjk' : j = k := by omega
            subst hjk'
            have hcl := cat_length ls L j HL.out
            have HCL := Lib.hid hcl
            clear hcl
            go_wp2
            go_ret
            exact ⟨_, _, by rw [HCL.out]; rfl, by rw [HCL.out]; exact Sl.ofOwn hownj, by rw [HCL.out]; exact hownj, hbj⟩
      · have h00 : tot L k = 0 := by omega
        have HT := Lib.hid h00
        have ht0 : ((tot L k : Nat) : Int) = 0 := by omega
        clear h00
        rw [ht0]
        go_wp2_with fail
        refine (grow_none _).mono ?_
        rintro e w1 ⟨rfl, rfl⟩
        go_wp2
        go_loopw [6, 8, 27] (fun v _ i wr => ∃ j : Nat, j ≤ k ∧ i = .int .i64 j ∧ v = .slice none 0 0 ∧ Below w.heap.size w wr) (fun _ _ i _ => k - (intOf i).toNat)
        case atStart => exact ⟨0, by omega, rfl, rfl, Below.refl _ _⟩
        case round =>
          obtain ⟨j, hj, rfl, rfl, hbj⟩ := hrel
          by_cases hjk : j < k
          · have hc := cell_later hbj (HC.out j hjk)
            have hs := (HS.out j hjk).ext hbj
            have hlj := HL.out j hjk
            have hm2 := tot_mono L (show j + 1 ≤ k by omega)
            simp only [tot] at hm2
            have hL0 : L j = 0 := by have := HT.out; omega
            rw [hL0] at hc hs hlj
            have hl0 : ls j = [] := List.length_eq_zero_iff.1 hlj
            rw [hl0] at hs
            clear hlj hl0 hm2 hL0 ht0
            go_wp2_with (at_builtin; refine wpList_append_sl rfl _ _ 80 rfl w.heap.size 38 Tryz.underlying80 HB.out rfl (by decide) rfl (World.ownsRow_nil _ _ _ _) rfl hs rfl (by simp [cells]) (by decide) (by decide) hbj.size ?_; intro v2 w2 hown2 hg2 hv2)
            obtain rfl := hv2.2 ⟨rfl, rfl⟩
            have hb2 := hbj.grown hg2 hbj.size (fun k e => by cases e)
            go_wp2
            go_roundw
            case rel => exact ⟨j + 1, by omega, by go_num, rfl, hb2⟩
            case measure => simp [intOf]; omega
          · have hjk' : j = k := by omega
            subst hjk'
            have hcl := cat_length ls L j HL.out
            have hcn : cat ls j = [] := List.length_eq_zero_iff.1 (by rw [hcl]; exact HT.out)
            have HCN := Lib.hid hcn
            clear hcl hcn
            go_wp2
            go_ret
            exact ⟨none, 0, by rw [HCN.out]; rfl, by rw [HCN.out]; exact Sl.nil _, by rw [HCN.out]; exact World.ownsRow_nil _ _ _ _, hbj⟩
def pick2 {α : Type} (x y : α) : Nat → α
  | 0 => x
  | _ => y
theorem forall2 {p : Nat → Prop} (h0 : p 0) (h1 : p 1) : ∀ i, i < 2 → p i := by
  intro i hi
  obtain rfl | rfl : i = 0 ∨ i = 1 := by omega
  · exact h0
  · exact h1
theorem cat_two (b cap : Nat) (a0 a1 : Option Addr) (n0 n1 c0 c1 : Nat) (l0 l1 : List SV) (w : World)
    (h0 : w.cell? ⟨b, 0, none⟩ = some (.slice a0 n0 c0)) (h1 : w.cell? ⟨b, 1, none⟩ = some (.slice a1 n1 c1))
    (s0 : Sl w (.slice a0 n0 c0) n0 (cells l0)) (s1 : Sl w (.slice a1 n1 c1) n1 (cells l1))
    (e0 : l0.length = n0) (e1 : l1.length = n1) (ht : n0 + n1 ≤ 11728124029610) :
    Calls Tryz.prog 136 #[.slice (some ⟨b, 0, none⟩) 2 cap] w (CatPost w (l0 ++ l1)) := by
  have := cat_any b 0 2 cap (pick2 a0 a1) (pick2 n0 n1) (pick2 c0 c1) (pick2 l0 l1) w (by omega)
    (forall2 (p := fun i => w.cell? ⟨b, 0 + i, none⟩ = some (.slice (pick2 a0 a1 i) (pick2 n0 n1 i) (pick2 c0 c1 i))) h0 h1) (forall2 (p := fun i => Sl w (.slice (pick2 a0 a1 i) (pick2 n0 n1 i) (pick2 c0 c1 i)) (pick2 n0 n1 i) (cells (pick2 l0 l1 i))) s0 s1) (forall2 (p := fun i => (pick2 l0 l1 i).length = pick2 n0 n1 i) e0 e1) (by simp only [tot, pick2]; omega)
  simpa [cat, pick2] using this
def CatFrom (w : World) (l : List SV) (e : Ending) (w' : World) : Prop :=
  ∃ a cap, e = .returned (.slice a l.length cap) ∧ Sl w' (.slice a l.length cap) l.length (cells l) ∧ w'.ownsRow w.heap.size 38 1 (.slice a l.length cap) l.length (cells l) ∧ Below w.heap.size w w'
theorem own_up {w : World} {base base' n : Nat} {v : Value} {xs : List Value} (h : w.ownsRow base' 38 1 v n xs) (hb : base ≤ base') : w.ownsRow base 38 1 v n xs := by
  obtain ⟨h1, h2 | ⟨g, cap, cur, h3, h4, h5⟩⟩ := h
  · exact ⟨h1, .inl h2⟩
  · exact ⟨h1, .inr ⟨g, cap, cur, h3, Nat.le_trans hb h4, h5⟩⟩
/-- Concat(x, y) at the world that a region's two new cells leave -/
theorem cat_new (w : World) (a0 a1 : Option Addr) (c0 c1 : Nat) (l0 l1 : List SV) (s0 : Sl w (.slice a0 l0.length c0) l0.length (cells l0)) (s1 : Sl w (.slice a1 l1.length c1) l1.length (cells l1)) (ht : l0.length + l1.length ≤ 11728124029610) :
    Calls Tryz.prog 136 #[.slice (some ⟨w.heap.size, 0, none⟩) 2 2] (w.alloc (.cells #[.slice a0 l0.length c0, .slice a1 l1.length c1] 80)).drew (CatFrom w (l0 ++ l1)) := by
  have hb : Below w.heap.size w (w.alloc (.cells #[.slice a0 l0.length c0, .slice a1 l1.length c1] 80)).drew := by go_grown
  refine (cat_two _ _ a0 a1 _ _ c0 c1 l0 l1 _ (by simp) (by simp) (s0.ext hb) (s1.ext hb) rfl rfl ht).mono ?_
  rintro e w' ⟨a, cap, rfl, h1, h2, h3⟩
  exact ⟨a, cap, rfl, h1, own_up h2 (by simp), ext_trans hb h3⟩
theorem cat_new' (w : World) (a0 a1 : Option Addr) (c0 c1 : Nat) (l0 l1 : List SV) (s0 : Sl w (.slice a0 l0.length c0) l0.length (cells l0)) (s1 : Sl w (.slice a1 l1.length c1) l1.length (cells l1)) (ht : l0.length + l1.length ≤ 11728124029610) :
    Calls Tryz.prog 136 #[.slice (some ⟨w.heap.size, 0, none⟩) 2 2] (w.alloc (.cells #[.slice a0 l0.length c0, .slice a1 l1.length c1] 80)) (CatFrom w (l0 ++ l1)) := by
  have hb : Below w.heap.size w (w.alloc (.cells #[.slice a0 l0.length c0, .slice a1 l1.length c1] 80)) := by go_grown
  refine (cat_two _ _ a0 a1 _ _ c0 c1 l0 l1 _ (by simp) (by simp) (s0.ext hb) (s1.ext hb) rfl rfl ht).mono ?_
  rintro e w' ⟨a, cap, rfl, h1, h2, h3⟩
  exact ⟨a, cap, rfl, h1, own_up h2 (by simp), ext_trans hb h3⟩
def pick3 {α : Type} (x y z : α) : Nat → α
  | 0 => x
  | 1 => y
  | _ => z
theorem forall3 {p : Nat → Prop} (h0 : p 0) (h1 : p 1) (h2 : p 2) : ∀ i, i < 3 → p i := by
  intro i hi
  obtain rfl | rfl | rfl : i = 0 ∨ i = 1 ∨ i = 2 := by omega
  · exact h0
  · exact h1
  · exact h2
theorem cat_three (b cap : Nat) (a0 a1 a2 : Option Addr) (n0 n1 n2 c0 c1 c2 : Nat) (l0 l1 l2 : List SV) (w : World)
    (h0 : w.cell? ⟨b, 0, none⟩ = some (.slice a0 n0 c0)) (h1 : w.cell? ⟨b, 1, none⟩ = some (.slice a1 n1 c1)) (h2 : w.cell? ⟨b, 2, none⟩ = some (.slice a2 n2 c2))
    (s0 : Sl w (.slice a0 n0 c0) n0 (cells l0)) (s1 : Sl w (.slice a1 n1 c1) n1 (cells l1)) (s2 : Sl w (.slice a2 n2 c2) n2 (cells l2))
    (e0 : l0.length = n0) (e1 : l1.length = n1) (e2 : l2.length = n2) (ht : n0 + n1 + n2 ≤ 11728124029610) :
    Calls Tryz.prog 136 #[.slice (some ⟨b, 0, none⟩) 3 cap] w (CatPost w (l0 ++ l1 ++ l2)) := by
  have := cat_any b 0 3 cap (pick3 a0 a1 a2) (pick3 n0 n1 n2) (pick3 c0 c1 c2) (pick3 l0 l1 l2) w (by omega)
    (forall3 (p := fun i => w.cell? ⟨b, 0 + i, none⟩ = some (.slice (pick3 a0 a1 a2 i) (pick3 n0 n1 n2 i) (pick3 c0 c1 c2 i))) h0 h1 h2) (forall3 (p := fun i => Sl w (.slice (pick3 a0 a1 a2 i) (pick3 n0 n1 n2 i) (pick3 c0 c1 c2 i)) (pick3 n0 n1 n2 i) (cells (pick3 l0 l1 l2 i))) s0 s1 s2) (forall3 (p := fun i => (pick3 l0 l1 l2 i).length = pick3 n0 n1 n2 i) e0 e1 e2) (by simp only [tot, pick3]; omega)
  simpa [cat, pick3] using this
end CCCatL
end Go.Proofs.YtmnmepbljegjeaaGreatDoor
