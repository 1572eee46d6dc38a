/- A verdict other than to wait stays as it is when more trials come: for every plan and all trials the law returns true. No condition. (Several texts in one: ReadL, LawVerdicts.) -/
import Derived.Test.YtkinapdfmgfdfaaReadD
import Derived.Test.YtkinapdfmgfdfaaVerdB
import Derived.Test.YtkinapdfmgfdfaaFrame
namespace Go.Proofs.Ytkinapdfmgfdfaa
open Go.RowKit Nm
theorem weights_in_all {H : Type} {P : Program} {e : TypeId} : ∀ {els : List (DataW H)} {d : DataW H}, d ∈ els → ∀ n ∈ d.weights P e, n ∈ DataW.weightsAll P e els
  | [], _, h, _, _ => by cases h
  | x :: r, d, h, n, hn => by
    simp only [DataW.weightsAll, List.mem_append]
    rcases List.mem_cons.1 h with rfl | h
    · exact .inl hn
    · exact .inr (weights_in_all h n hn)
theorem elem_sized {H : Type} {P : Program} {ts : List TypeId} {ds : List (DataW H)} (hsz : (DataW.weightsEach P ts ds).all (· ≤ reachBytes) = true) {j : Nat} {t e : TypeId} {els sp : List (DataW H)} (ht : P.underlying t = some (.slice e)) (hj : ts[j]? = some t) (hd : ds[j]? = some (.slice els sp)) {y : DataW H} (hy : y ∈ els) : ∀ n ∈ y.weights P e, n ≤ reachBytes := by
  intro n hn
  have h := List.all_eq_true.1 hsz n (DataW.weights_mem_each hj hd n (by simp only [DataW.weights, ht]; exact List.mem_cons_of_mem _ (List.mem_append_left _ (weights_in_all hy n hn))))
  simpa using h
theorem inner_len {H : Type} {enc : TypeId × Value → H} {P : Program} {W : World} {spare : Nat → Bool} {held : Bool} {e e' : TypeId} {fuel : Nat} {a : Option Addr} {n cap : Nat} {y : DataW H × List MemPlace} (he : P.underlying e = some (.slice e')) (h : DataW.trod enc P W 0 spare held fuel e [.slice a n cap] = some y) (hw : ∀ m ∈ y.1.weights P e, m ≤ reachBytes) : n * P.bytesOf e' ≤ reachBytes := by
  rcases DataW.trod_slice he h with ⟨hc, _⟩ | ⟨a', len, cap', elems, rest, m, hn, hc, hx, hb, hl, hm, hlen, hel', _⟩
  · cases hc; simp
  · cases hc
    have h1 := hw ((elems.length + rest.length) * P.bytesOf e') (by rw [hx]; simp only [DataW.weights, he, List.length_map]; exact List.mem_cons_self ..)
    rw [hlen] at h1
    exact Nat.le_trans (Nat.mul_le_mul_right _ (Nat.le_add_right _ _)) h1
/-- A slice that is read as data, out of how its elements are read, each of which is among the data. -/
theorem read_slice_mem {H : Type} {enc : TypeId × Value → H} {P : Program} {W : World} {spare : Nat → Bool} {held : Bool} {α : Type} {R : α → List Value → Prop} {sz : Nat} (hs : ∀ x c, R x c → c.length = sz)
    {t e : TypeId} {fuel : Nat} {cs : List Value} {x : DataW H × List MemPlace} (ht : P.underlying t = some (.slice e)) (hC : P.cellsOf e = sz) (hsz : 0 < sz)
    (hel : ∀ n cs' y, DataW.trod enc P W 0 spare held n e cs' = some y → (∃ els sp, x.1 = .slice els sp ∧ y.1 ∈ els) → ∃ a, R a cs')
    (h : DataW.trod enc P W 0 spare held fuel t cs = some x) : ∃ (a : Option Addr) (l : List α) (cap : Nat) (cells : List Value), cs = [.slice a l.length cap] ∧ Sl W (.slice a l.length cap) l.length cells ∧ Reps R l cells := by
  rcases DataW.trod_slice ht h with ⟨rfl, _⟩ | ⟨a, len, cap, elems, rest, n, hn, rfl, hx, hb, hl, hm, hlen, hel', _⟩
  · exact ⟨none, [], 0, [], rfl, Sl.nil W, rfl⟩
  · rw [hC] at hel'
    have hget : ∀ i, i < len → ∃ c, (∀ j u, c[j]? = some u → W.cell? ((a.add (i * sz)).add j) = some u) ∧ ∃ y, R y c := by
      intro i hi
      have h1 := hel' i hi
      have hi' : i < elems.length := by omega
      rw [List.getElem?_eq_getElem hi'] at h1
      obtain ⟨c, hc, htr⟩ := Option.bind_eq_some_iff.1 h1
      obtain ⟨_, hcl, hat⟩ := World.cells?_some hc
      refine ⟨c, fun j u hu => ?_, hel n c _ htr ⟨_, _, by rw [hx], List.mem_map.2 ⟨elems[i], List.getElem_mem hi', rfl⟩⟩⟩
      rw [hat j (by have := (List.getElem?_eq_some_iff.1 hu).1; omega)]; exact hu
    have hget' : ∀ i, ∃ c, i < len → (∀ j u, c[j]? = some u → W.cell? ((a.add (i * sz)).add j) = some u) ∧ ∃ y, R y c := by
      intro i
      by_cases hi : i < len
      · obtain ⟨c, hc⟩ := hget i hi; exact ⟨c, fun _ => hc⟩
      · exact ⟨[], fun h => (hi h).elim⟩
    obtain ⟨f, hf⟩ := Classical.axiomOfChoice hget'
    obtain ⟨l, hll, hr, hg⟩ := elems_reps hs f len (fun i hi => (hf i hi).2)
    refine ⟨some a, l, cap, _, by rw [hll], ⟨_, _, rfl, by omega, hm, (fun h => by cases h), fun i u hu => ?_⟩, hr⟩
    have hrl := Reps.length hs hr
    have hi : i < len * sz := by have := (List.getElem?_eq_some_iff.1 hu).1; rw [hll] at hrl; omega
    have hid : i / sz < len := Nat.div_lt_of_lt_mul (by rw [Nat.mul_comm]; exact hi)
    obtain ⟨y, hy⟩ := (hf _ hid).2
    have hfl := hs _ _ hy
    have hj : i % sz < (f (i / sz)).length := by rw [hfl]; exact Nat.mod_lt _ hsz
    have h2 := hg _ hid _ _ (List.getElem?_eq_getElem hj)
    rw [Nat.div_add_mod' i sz, hu] at h2
    have hcell := (hf _ hid).1 _ _ (List.getElem?_eq_getElem hj)
    have h0 : 0 < len := Nat.lt_of_le_of_lt (Nat.zero_le _) hid
    obtain ⟨y0, hy0⟩ := (hf 0 h0).2
    have hj0 : 0 < (f 0).length := by rw [hs _ _ hy0]; exact hsz
    have hc0 := (hf 0 h0).1 _ _ (List.getElem?_eq_getElem hj0)
    rw [Nat.zero_mul] at hc0
    have ha : a = ⟨a.block, a.off, none⟩ := by
      have e : (a.add 0).add 0 = a := by simp [Addr.add]
      rw [e] at hc0
      exact addr_of_cell hc0
    refine ⟨a.block, a.off, by rw [← ha], ?_⟩
    rw [ha, add_add_none, Nat.div_add_mod' i sz] at hcell
    rw [hcell, Option.some.inj h2]
theorem flat_of {α : Type} {cellsF : α → List Value} {okF : α → Prop} : ∀ {l : List α} {cs : List Value}, Reps (fun s c => c = cellsF s ∧ okF s) l cs → cs = l.flatMap cellsF ∧ ∀ e ∈ l, okF e
  | [], _, h => ⟨h, fun _ h => by cases h⟩
  | _ :: _, _, ⟨c, r, e, h1, h2⟩ => by
    subst e; obtain ⟨h1, ho⟩ := h1; subst h1
    obtain ⟨i1, i2⟩ := flat_of h2
    exact ⟨by rw [List.flatMap_cons, i1], fun x hx => (List.mem_cons.1 hx).elim (fun h => h ▸ ho) (i2 x)⟩
/-- [][]Trial, read as data: the outer slice's cells, each inner slice, and how long it can be -/
theorem read_TrialRows {H : Type} {enc : TypeId × Value → H} {W : World} {spare : Nat → Bool} {held : Bool} {ts : List TypeId} {ds : List (DataW H)} (hsz : (DataW.weightsEach Try.prog ts ds).all (· ≤ reachBytes) = true) {j : Nat} {fuel : Nat} {cs : List Value} {x : DataW H × List MemPlace}
    (hj : ts[j]? = some 28) (hd : ds[j]? = some x.1) (h : DataW.trod enc Try.prog W 0 spare held fuel 28 cs = some x) :
    ∃ (a : Option Addr) (svs : List SV) (ls : List (List Tri)) (cap : Nat), cs = [.slice a svs.length cap] ∧ Sl W (.slice a svs.length cap) svs.length (svs.flatMap svL) ∧ RowsOf W triL svs ls ∧ (∀ sv ∈ svs, sv.n * 16 ≤ 140737488351232) ∧ svs.length * 24 ≤ 140737488351232 := by
  obtain ⟨a, l, cap, cells, e0, s0, rp⟩ := read_slice_mem (R := fun (s : SV × List Tri) c => c = svL s.1 ∧ (s.1.n = s.2.length ∧ Sl W (.slice s.1.a s.1.n s.1.c) s.1.n (s.2.flatMap triL) ∧ s.1.n * 16 ≤ 140737488351232)) (sz := 1) (by rintro x c ⟨rfl, _⟩; rfl) Try.underlying28 (by kernel_rfl) (by omega)
    (fun n cs' y ht hm => by
      obtain ⟨a', l', cap', cells', e1, s1, rp1⟩ := read_slice (R := fun (s : Tri) c => c = triL s ∧ True) (sz := 2) (by rintro x c ⟨rfl, _⟩; rfl) Try.underlying27 (by kernel_rfl) (by omega) (fun n cs' y _ ht => by obtain ⟨k0, k1, e, _⟩ := read_Trial _ _ _ ht; exact ⟨⟨k0, k1⟩, e, trivial⟩) ht
      obtain ⟨hc, _⟩ := flat_of rp1
      rw [hc] at s1
      obtain ⟨els, sp, hx, hy⟩ := hm
      rw [hx] at hd
      rw [e1] at ht
      have hl := inner_len Try.underlying27 ht (elem_sized hsz Try.underlying28 hj hd hy)
      rw [show Try.prog.bytesOf 35 = 16 by kernel_rfl] at hl
      simp only [reachBytes] at hl
      exact ⟨(⟨a', l'.length, cap'⟩, l'), e1, rfl, s1, hl⟩) h
  have hsl := slice_sized hsz Try.underlying28 hj hd h e0
  rw [show Try.prog.bytesOf 27 = 24 by kernel_rfl] at hsl
  simp only [reachBytes] at hsl
  obtain ⟨hc, ho⟩ := flat_of (cellsF := fun (s : SV × List Tri) => svL s.1) rp
  have e : l.flatMap (fun (s : SV × List Tri) => svL s.1) = (l.map Prod.fst).flatMap svL := by rw [List.flatMap_map]
  rw [hc, e] at s0
  have hl : (l.map Prod.fst).length = l.length := List.length_map _
  refine ⟨a, l.map Prod.fst, l.map Prod.snd, cap, by rw [hl]; exact e0, by rw [hl]; exact s0, ⟨by simp, fun i sv t h1 h2 => ?_⟩, fun sv hsv => ?_, by rw [hl]; exact hsl⟩
  · rw [List.getElem?_map] at h1 h2
    cases hg : l[i]? with
    | none => rw [hg] at h1; cases h1
    | some p =>
      rw [hg] at h1 h2
      cases h1; cases h2
      exact ⟨(ho p (List.mem_of_getElem? hg)).1, (ho p (List.mem_of_getElem? hg)).2.1⟩
  · obtain ⟨p, hp, rfl⟩ := List.mem_map.1 hsv
    exact (ho p hp).2.2
theorem read_Plan {H : Type} {enc : TypeId × Value → H} {W : World} {spare : Nat → Bool} {held : Bool} (fuel : Nat) (cs : List Value) (x : DataW H × List MemPlace) (h : DataW.trod enc Try.prog W 0 spare held fuel 26 cs = some x) :
    ∃ (x0 x1 : Int) (x2 x3 : ByteArray) (a : Option Addr) (gs : List RT) (cap : Nat), cs = [.int .i64 x0, .int .i64 x1, .string x2, .string x3, .slice a gs.length cap] ∧ x2.size ≤ maxLen ∧ x3.size ≤ maxLen ∧ Sl W (.slice a gs.length cap) gs.length (gs.flatMap rtL) ∧ ∀ r ∈ gs, rtOk r := by
  obtain ⟨xs, n, rfl, _, hlen, hxl, hf⟩ := DataW.trod_struct Try.underlying26 h
  rw [show Try.prog.cellsOf 26 = 5 by kernel_rfl] at hlen
  obtain ⟨c0, r0, rfl, l0⟩ := uncons hlen
  obtain ⟨c1, r1, rfl, l1⟩ := uncons l0
  obtain ⟨c2, r2, rfl, l2⟩ := uncons l1
  obtain ⟨c3, r3, rfl, l3⟩ := uncons l2
  obtain ⟨c4, r4, rfl, l4⟩ := uncons l3
  obtain rfl := List.length_eq_zero_iff.1 l4
  have hx : ∀ i, i < 4 → ∃ y, xs[i]? = some y := fun i hi => ⟨_, List.getElem?_eq_getElem (by rw [hxl]; exact hi)⟩
  have f0 : DataW.trod enc Try.prog W 0 spare held n 3 (List.take (Try.prog.cellsOf 3) (List.drop 0 [c0, c1, c2, c3, c4])) = xs[0]? := hf 0 _ rfl
  rw [show Try.prog.cellsOf 3 = 1 by kernel_rfl] at f0
  simp only [List.drop, List.take] at f0
  obtain ⟨y0, e0⟩ := hx 0 (by omega)
  rw [e0] at f0
  obtain ⟨x0, h0, _⟩ := DataW.trod_int Try.underlying3 f0
  have f1 : DataW.trod enc Try.prog W 0 spare held n 3 (List.take (Try.prog.cellsOf 3) (List.drop 1 [c0, c1, c2, c3, c4])) = xs[1]? := hf 1 _ rfl
  rw [show Try.prog.cellsOf 3 = 1 by kernel_rfl] at f1
  simp only [List.drop, List.take] at f1
  obtain ⟨y1, e1⟩ := hx 1 (by omega)
  rw [e1] at f1
  obtain ⟨x1, h1, _⟩ := DataW.trod_int Try.underlying3 f1
  have f2 : DataW.trod enc Try.prog W 0 spare held n 23 (List.take (Try.prog.cellsOf 23) (List.drop 2 [c0, c1, c2, c3, c4])) = xs[2]? := hf 2 _ rfl
  rw [show Try.prog.cellsOf 23 = 2 by kernel_rfl] at f2
  simp only [List.drop, List.take] at f2
  obtain ⟨y2, e2⟩ := hx 2 (by omega)
  rw [e2] at f2
  obtain ⟨x2, x3, h2, w2, w3⟩ := read_Ratio _ _ _ f2
  have f3 : DataW.trod enc Try.prog W 0 spare held n 24 (List.take (Try.prog.cellsOf 24) (List.drop 4 [c0, c1, c2, c3, c4])) = xs[3]? := hf 3 _ rfl
  rw [show Try.prog.cellsOf 24 = 1 by kernel_rfl] at f3
  simp only [List.drop, List.take] at f3
  obtain ⟨y3, e3⟩ := hx 3 (by omega)
  rw [e3] at f3
  obtain ⟨a, l, cap, cells, e4, s4, rp⟩ := read_slice (R := fun (s : RT) c => c = rtL s ∧ rtOk s) (sz := 2) (by rintro x c ⟨rfl, _⟩; rfl) Try.underlying24 (by kernel_rfl) (by omega)
    (fun n cs' y _ ht => by obtain ⟨k0, k1, e, o0, o1⟩ := read_Ratio _ _ _ ht; exact ⟨⟨k0, k1⟩, e, o0, o1⟩) f3
  obtain ⟨hc, ho⟩ := flat_of rp
  rw [hc] at s4
  cases h0
  cases h1
  cases h2
  cases e4
  exact ⟨x0, x1, x2, x3, a, l, cap, rfl, w2, w3, s4, ho⟩
end Go.Proofs.Ytkinapdfmgfdfaa
namespace Go.Proofs.Ytkinapdfmgfdfaa.lawVerdicts
open Go.ChangeShapes Go.WideShapes Go.ChangeAt Go.RowKit Nm

theorem ints_of_reps : ∀ {l : List Int} {cs : List Value}, Reps (fun (s : Int) c => c = [Value.int .i64 s] ∧ i64ok s) l cs → cs = l.map (Value.int .i64) ∧ ∀ e ∈ l, i64ok e
  | [], _, h => ⟨h, fun _ h => by cases h⟩
  | _ :: _, _, ⟨c, r, e, h1, h2⟩ => by
    subst e; obtain ⟨h1, ho⟩ := h1; subst h1
    obtain ⟨i1, i2⟩ := ints_of_reps h2
    exact ⟨by rw [List.map_cons, i1]; rfl, fun x hx => (List.mem_cons.1 hx).elim (fun h => h ▸ ho) (i2 x)⟩
theorem flats_of_reps {α : Type} {cellsF : α → List Value} {okF : α → Prop} : ∀ {l : List α} {cs : List Value}, Reps (fun s c => c = cellsF s ∧ okF s) l cs → cs = l.flatMap cellsF ∧ ∀ e ∈ l, okF e
  | [], _, h => ⟨h, fun _ h => by cases h⟩
  | _ :: _, _, ⟨c, r, e, h1, h2⟩ => by
    subst e; obtain ⟨h1, ho⟩ := h1; subst h1
    obtain ⟨i1, i2⟩ := flats_of_reps h2
    exact ⟨by rw [List.flatMap_cons, i1], fun x hx => (List.mem_cons.1 hx).elim (fun h => h ▸ ho) (i2 x)⟩
set_option maxRecDepth 100000 in
theorem lifted (os : Os) (started : os.Started) (H : Type) (enc : TypeId × Value → H) :
    ReturnsInHanded {} Try.checked os 3 .any (Rows.decideVerdictsStaySpec.pre6 enc Try.prog Try.f3 Rows.decideVerdictsStayRow.domain false) (Rows.decideVerdictsStaySpec.post enc Try.prog Try.f3 false true false false) := by
  refine returnsInHanded_of_change_sized (C := Try.checked) own started (by kernel_rfl) Try.func3
    (ChangeSpec.witness6 (enc := enc) (C := Try.checked) false ⟨#[], #[.agg #[.int .i64 0, .int .i64 0, .string ByteArray.empty, .string ByteArray.empty, .slice none 0 0], .slice none 0 0, .slice none 0 0, .slice none 0 0, .slice none 0 0], []⟩ 8 (by kernel_rfl) (by kernel_rfl) (by kernel_rfl) (by kernel_rfl)) ?_
  intro W base args ds gs before hval0 hW hcnd hsz0 _
  have hval : ∀ (j : Nat) t v, Try.f3.params[j]? = some t → args[j]? = some v → Value.okWide Try.prog W .any base t v := hval0
  have hsz : (DataW.weightsEach Try.prog (Try.f3.params.toList ++ Rows.decideVerdictsStaySpec.plain.varTypes Try.prog) (ds ++ gs)).all (· ≤ reachBytes) = true := hsz0
  have hW' := hW
  obtain ⟨p, q, hA0, hV, rfl, hfz, hnd⟩ := hW
  have hA : DataW.TrodAll enc Try.prog W 0 (fun _ => true) true Try.f3.params.toList args.toList ds p := hA0
  rw [Try.params3] at hA hval hsz
  obtain ⟨v0, vs0, d0, ds0, p0, q0, hargs, rfl, rfl, h0, r0⟩ := trodAll_cons hA
  obtain ⟨v1, vs1, d1, ds1, p1, q1, rfl, rfl, rfl, h1, r1⟩ := trodAll_cons r0
  obtain ⟨v2, vs2, d2, ds2, p2, q2, rfl, rfl, rfl, h2, r2⟩ := trodAll_cons r1
  obtain ⟨v3, vs3, d3, ds3, p3, q3, rfl, rfl, rfl, h3, r3⟩ := trodAll_cons r2
  obtain ⟨v4, vs4, d4, ds4, p4, q4, rfl, rfl, rfl, h4, r4⟩ := trodAll_cons r3
  obtain ⟨rfl, rfl, rfl⟩ := trodAll_nil r4
  obtain rfl : args = #[v0, v1, v2, v3, v4] := by cases args; simp_all
  obtain ⟨rfl, rfl⟩ := trodVars_none hV
  obtain ⟨n0, g0⟩ := h0
  obtain ⟨P, K, n, m, pa, gs, pc, e0, zn, zm, sp, okp⟩ := read_Plan _ _ _ g0
  have hv0 : v0 = .agg #[.int .i64 P, .int .i64 K, .string n, .string m, .slice pa gs.length pc] := by rw [agg_of_cells (v := v0) (by rw [e0]; simp), e0]
  subst hv0
  obtain ⟨n1, g1⟩ := h1
  obtain ⟨a'1, n'1, c'1, rfl⟩ := okWide_slice Try.underlying27 (hval 1 27 v1 rfl rfl)
  obtain ⟨a_goal, goal, c_goal, cells1, e1, s_goal, rp1⟩ := read_slice (R := fun (s : Tri) c => c = triL s ∧ (fun _ => True) s) (sz := 2) (by rintro x c ⟨rfl, _⟩; rfl) Try.underlying27 (by kernel_rfl) (by omega)
    (fun n cs' y _ ht => by obtain ⟨k0, k1, e, _⟩ := read_Trial _ _ _ ht; exact ⟨⟨k0, k1⟩, e, trivial⟩) g1
  have hv1 : Value.slice a'1 n'1 c'1 = .slice a_goal goal.length c_goal := by simpa [Value.cells] using e1
  have sz_goal := slice_sized hsz (j := 1) Try.underlying27 rfl rfl g1 e1
  rw [show Try.prog.bytesOf 35 = 16 by kernel_rfl] at sz_goal
  simp only [reachBytes] at sz_goal
  obtain ⟨hc1, ok_goal⟩ := flats_of_reps (cellsF := triL) (okF := (fun _ => True)) rp1
  rw [hc1] at s_goal
  obtain ⟨n2, g2⟩ := h2
  obtain ⟨a'2, n'2, c'2, rfl⟩ := okWide_slice Try.underlying27 (hval 2 27 v2 rfl rfl)
  obtain ⟨a_more, more, c_more, cells2, e2, s_more, rp2⟩ := read_slice (R := fun (s : Tri) c => c = triL s ∧ (fun _ => True) s) (sz := 2) (by rintro x c ⟨rfl, _⟩; rfl) Try.underlying27 (by kernel_rfl) (by omega)
    (fun n cs' y _ ht => by obtain ⟨k0, k1, e, _⟩ := read_Trial _ _ _ ht; exact ⟨⟨k0, k1⟩, e, trivial⟩) g2
  have hv2 : Value.slice a'2 n'2 c'2 = .slice a_more more.length c_more := by simpa [Value.cells] using e2
  have sz_more := slice_sized hsz (j := 2) Try.underlying27 rfl rfl g2 e2
  rw [show Try.prog.bytesOf 35 = 16 by kernel_rfl] at sz_more
  simp only [reachBytes] at sz_more
  obtain ⟨hc2, ok_more⟩ := flats_of_reps (cellsF := triL) (okF := (fun _ => True)) rp2
  rw [hc2] at s_more
  obtain ⟨n3, g3⟩ := h3
  obtain ⟨a'3, n'3, c'3, rfl⟩ := okWide_slice Try.underlying28 (hval 3 28 v3 rfl rfl)
  obtain ⟨a_guards, svs_guards, guards, c_guards, e3, s_guards, rw_guards, in_guards, sz_guards⟩ := read_TrialRows hsz (j := 3) rfl rfl g3
  have hv3 : Value.slice a'3 n'3 c'3 = .slice a_guards svs_guards.length c_guards := by simpa [Value.cells] using e3
  obtain ⟨n4, g4⟩ := h4
  obtain ⟨a'4, n'4, c'4, rfl⟩ := okWide_slice Try.underlying28 (hval 4 28 v4 rfl rfl)
  obtain ⟨a_others, svs_others, others, c_others, e4, s_others, rw_others, in_others, sz_others⟩ := read_TrialRows hsz (j := 4) rfl rfl g4
  have hv4 : Value.slice a'4 n'4 c'4 = .slice a_others svs_others.length c_others := by simpa [Value.cells] using e4
  rw [hv1, hv2, hv3, hv4]
  rw [hv1, hv2, hv3, hv4] at hW'
  refine (walk P K n m zn zm gs okp pa pc goal a_goal c_goal more a_more c_more guards svs_guards a_guards c_guards others svs_others a_others c_others W sp s_goal s_more s_guards rw_guards s_others rw_others sz_guards sz_more in_others (by omega)).mono fun e W' ⟨he, hg⟩ => ?_
  subst he
  exact ⟨_, rfl, law_post laidOut rfl hW' hg (by kernel_rfl) (by kernel_rfl) Try.underlying4 rfl⟩

theorem over : Rows.decideVerdictsStayRow.holds Try.pinned (OpenSpec.ofChange Rows.decideVerdictsStaySpec) :=
  OpenClaim.holds_of_wide 3 Try.f3 rfl rfl rfl rfl rfl rfl rfl ⟨rfl, rfl, rfl, rfl, rfl⟩ rfl rfl rfl rfl rfl (by kernel_rfl) Try.func3 (by kernel_rfl)
    (of_decide_eq_true (by kernel_rfl)) (by unfold Func.isWrapper; first | (rw [if_pos (by decide +kernel)]; kernel_rfl) | (rw [if_neg (by decide +kernel)]; exact ⟨rfl, rfl⟩))
    (fun os started H enc _ => lifted os started H enc)

theorem proved : Rows.DecideVerdictsStaySaid := over
end Go.Proofs.Ytkinapdfmgfdfaa.lawVerdicts
