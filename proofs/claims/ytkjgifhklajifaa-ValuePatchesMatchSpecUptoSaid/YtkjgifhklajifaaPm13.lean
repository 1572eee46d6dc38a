/- patch of package value, where a kind is no object. Printed by gen_vpat.py. slices.SortFunc at fields: a row of the call's own, in order of its names. -/
import Derived.Test.YtkjgifhklajifaaPm12
import Derived.Test.YtkjgifhklajifaaPm10
import Derived.Test.YtkjgifhklajifaaShelf
import Derived.Test.YtkjgifhklajifaaPm07
import Derived.Shelf.SlSortCmp.NoneTotal
import Derived.Sort.OwnSorted
import Derived.Deep.QuietTactic
namespace Go.Proofs.Ytkjgifhklajifaa
open Go.RowKit
namespace Fd
open _root_.Go.Proofs.Ytkjgifhklajifaa.Nt (RH RH.cell RH.box RH.lt RH.new RH.ext RH.fre RH.set RH.other)
open _root_.Go.Proofs.Ytkjgifhklajifaa.Rw (All2 All2.get All2.length wpList_load_agg wp_stored fl_at Kept Fresh own_mono own_base)
set_option maxRecDepth 100000 in
set_option maxHeartbeats 16000000 in
theorem pat_not (x y : V) (cs cy : List Value) (w : World) (hk : ¬ (kind x = 5 ∧ kind y = 5)) (hx : RepV w x cs) (hp : RepV w y cy) (hcy : chkV y = 0) : Calls Try.prog 15 #[.agg cs.toArray, .agg cy.toArray] w (CopyPost (patchV x y) w) := by
  have hm : patchV x y = y := by
    obtain ⟨k, n, s, is, fs⟩ := x
    have hk' : k ≠ 5 ∨ kind y ≠ 5 := Classical.byContradiction fun h => by
      simp only [not_or, Classical.not_not] at h
      exact hk h
    simp only [patchV, if_pos hk']
  rw [hm]
  obtain ⟨k1, n1, s1, b1, b2, b3, b4, b5, b6, rfl⟩ := V5 hx
  obtain ⟨k2, n2, s2, e1, e2, e3, e4, e5, e6, rfl⟩ := V5 hp
  have hk9 : ¬ (k1 = 5 ∧ k2 = 5) := by rw [← rep_kind hx, ← rep_kind hp]; exact hk
  have HP := Lib.hid hp
  have HCK := Lib.hid hcy
  clear hm hk hx hp hcy
  go_enter Try.func15, Try.ntmps15
  go_upto_region 1 with (fail)
  refine wp_vr3 fun W hbW hR1 hR2 hR3 => ?_
  have a0 : W.cell? ⟨w.heap.size, 0, none⟩ = some (.int .i64 k1) := hR1.cell 0
  have c0 : W.cell? ⟨w.heap.size + 1, 0, none⟩ = some (.int .i64 k2) := hR2.cell 0
  have c1 : W.cell? ⟨w.heap.size + 1, 1, none⟩ = some (.int .i64 n2) := hR2.cell 1
  have c2 : W.cell? ⟨w.heap.size + 1, 2, none⟩ = some (.string s2) := hR2.cell 2
  have c3 : W.cell? ⟨w.heap.size + 1, 3, none⟩ = some (.slice e1 e2 e3) := hR2.cell 3
  have c4 : W.cell? ⟨w.heap.size + 1, 4, none⟩ = some (.slice e4 e5 e6) := hR2.cell 4
  have HR3 := Lib.hid hR3
  have HBW := Lib.hid hbW
  clear hR1 hR2 hR3 hbW
  by_cases h1 : k1 = 5
  · have h2 : (k2 != 5) = true := by
      have : k2 ≠ 5 := fun e => hk9 ⟨h1, e⟩
      simpa using this
    subst h1
    clear hk9
    go_wp2_with fail
    refine ((xcV _) _ _ (RepV.ext HBW.out HP.out) HCK.out).mono ?_
    rintro e w3 ⟨c, rfl, hf, hb3⟩
    obtain ⟨k', n', s', a1, m1, q1, a2, m2, q2, rfl⟩ := V5 hf.now
    have HR4 := Lib.hid (HR3.out.ext hb3)
    have HFIN : Hid (CopyPost y w (.returned (.agg (vAr k' n' s' (.slice a1 m1 q1) (.slice a2 m2 q2)))) (w3.setRow (w.heap.size + 2) (vAr k' n' s' (.slice a1 m1 q1) (.slice a2 m2 q2)))) := Lib.hid ⟨_, rfl, (Fresh.kept hf (by rw [setRow_size]; exact Nat.le_refl _) (fun q h1 h2 => setRow_other _ _ _ _ (by have := HR3.out.lt; omega))).mono (by have := HBW.out.size; omega), below_setRow (HBW.out.trans (hb3.mono HBW.out.size)) (by omega) _⟩
    clear a0 c0 c1 c2 c3 c4 hf hb3
    go_wp2_with (refine wpList_store_row rfl _ _ _ rfl (w.heap.size + 2) (vAr k' n' s' (.slice a1 m1 q1) (.slice a2 m2 q2)) rfl rfl _ _ HR4.out (v_inf5 _ _ _ _ _) rfl (v_all5 _ _ _ _ _ _ _ _ _) ?_)
    exact bodyPost_ret (v := .agg (vAr k' n' s' (.slice a1 m1 q1) (.slice a2 m2 q2))) (results_cell_row rfl _ _ _ _ _ _ _ rfl (HR4.out.row _) Try.underlying25 rfl (v_inf5 _ _ _ _ _)) rfl HFIN.out
  · have h2 : (k1 != 5) = true := by simpa using h1
    clear hk9 h1
    go_wp2_with fail
    refine ((xcV _) _ _ (RepV.ext HBW.out HP.out) HCK.out).mono ?_
    rintro e w3 ⟨c, rfl, hf, hb3⟩
    obtain ⟨k', n', s', a1, m1, q1, a2, m2, q2, rfl⟩ := V5 hf.now
    have HR4 := Lib.hid (HR3.out.ext hb3)
    have HFIN : Hid (CopyPost y w (.returned (.agg (vAr k' n' s' (.slice a1 m1 q1) (.slice a2 m2 q2)))) (w3.setRow (w.heap.size + 2) (vAr k' n' s' (.slice a1 m1 q1) (.slice a2 m2 q2)))) := Lib.hid ⟨_, rfl, (Fresh.kept hf (by rw [setRow_size]; exact Nat.le_refl _) (fun q h1 h2 => setRow_other _ _ _ _ (by have := HR3.out.lt; omega))).mono (by have := HBW.out.size; omega), below_setRow (HBW.out.trans (hb3.mono HBW.out.size)) (by omega) _⟩
    clear a0 c0 c1 c2 c3 c4 hf hb3
    go_wp2_with (refine wpList_store_row rfl _ _ _ rfl (w.heap.size + 2) (vAr k' n' s' (.slice a1 m1 q1) (.slice a2 m2 q2)) rfl rfl _ _ HR4.out (v_inf5 _ _ _ _ _) rfl (v_all5 _ _ _ _ _ _ _ _ _) ?_)
    exact bodyPost_ret (v := .agg (vAr k' n' s' (.slice a1 m1 q1) (.slice a2 m2 q2))) (results_cell_row rfl _ _ _ _ _ _ _ rfl (HR4.out.row _) Try.underlying25 rfl (v_inf5 _ _ _ _ _)) rfl HFIN.out
end Fd
end Go.Proofs.Ytkjgifhklajifaa
namespace Go.Proofs.Ytkjgifhklajifaa
open Go.RowKit Go.Sort Go.Shelf
namespace Fd
open _root_.Go.Proofs.Ytkjgifhklajifaa.Rw (All2 All2.length All2.get fl_len)
/-- blocks behind w and draws alone -/
def GrewF (w w' : World) : Prop := ∃ q os', w' = grow (w.drewN q) os'
set_option maxRecDepth 100000 in
set_option maxHeartbeats 8000000 in
theorem patch1_at (f g : F) (c c' : List Value) (w : World) (h : RepF w f c) (h' : RepF w g c') :
    Calls Try.prog 34 #[.agg c.toArray, .agg c'.toArray] w fun e w' => e = .returned (.int .i64 (cmpS (nmF f) (nmF g))) ∧ GrewF w w' := by
  obtain ⟨a, x⟩ := f
  obtain ⟨b, y⟩ := g
  simp only [RepF] at h h'
  obtain ⟨cv, rfl, _, hx⟩ := h
  obtain ⟨cv', rfl, _, hy⟩ := h'
  obtain ⟨k, n, s, a1, m1, q1, a2, m2, q2, rfl⟩ := V5 hx
  obtain ⟨k', n', s', a1', m1', q1', a2', m2', q2', rfl⟩ := V5 hy
  show Calls Try.prog 34 #[.agg _, .agg _] w fun e w' => e = .returned (.int .i64 (cmpS a b)) ∧ GrewF w w'
  clear hx hy
  go_enter Try.func34, Try.ntmps34
  go_wp2_with (go_at_call 35; refine (strings_Compare _ _ _).mono ?_; rintro e w' ⟨rfl, rfl⟩)
  go_ret
  exact ⟨rfl, 0, #[_, _], rfl⟩
theorem zipK {α β : Type} {R : α → β → Prop} : ∀ {l : List α} {m : List β}, All2 R l m → ∃ S : List {p : α × β // R p.1 p.2}, S.map (fun x => x.1.1) = l ∧ S.map (fun x => x.1.2) = m
  | [], [], _ => ⟨[], rfl, rfl⟩
  | a :: l, b :: m, h => by
    obtain ⟨S, h1, h2⟩ := zipK (l := l) (m := m) h.2
    exact ⟨⟨(a, b), h.1⟩ :: S, by rw [List.map_cons, h1], by rw [List.map_cons, h2]⟩
  | [], _ :: _, h => h.elim
  | _ :: _, [], h => h.elim
theorem unzipK {α β γ : Type} {R R' : α → β → Prop} (f : γ → α) (g : γ → β) : ∀ S : List γ, (∀ x ∈ S, R' (f x) (g x)) → All2 R' (S.map f) (S.map g)
  | [], _ => trivial
  | x :: S, h => ⟨h x (by simp), unzipK (R := R) f g S (fun y hy => h y (by simp [hy]))⟩
section
variable {N g : Nat} {w : World}
abbrev FK (N g : Nat) (w : World) := {p : F × List Value // ∀ w', KX N (some g) w w' → RepF w' p.1 p.2}
def fkL (x : FK N g w) : List Value := x.1.2
def fkC (x y : FK N g w) : Int := cmpS (nmF x.1.1) (nmF y.1.1)
theorem fkL_len (x : FK N g w) : (fkL x).length = 6 := RepF.len (x.2 w (KX.refl _ _ _))
theorem fkL_one (x : FK N g w) : ∀ u ∈ fkL x, u.oneCell' = true := RepF.one (x.2 w (KX.refl _ _ _))
instance fkInh : Inhabited (FK N g w) := ⟨⟨(.mk ByteArray.empty V0, .string ByteArray.empty :: [.int .i64 0, .int .i64 0, .string ByteArray.empty, .slice none 0 0, .slice none 0 0]), fun w' _ => by
  have h : RepV w' V0 [.int .i64 0, .int .i64 0, .string ByteArray.empty, .slice none 0 0, .slice none 0 0] :=
    rep_mk (k := 0) (n := 0) (s := ByteArray.empty) (is := []) (fs := []) (EI := []) (E := []) ⟨by unfold i64ok; omega, by unfold i64ok; omega, by decide⟩ (Sl.nil w') trivial (Sl.nil w') trivial
  simp only [RepF]
  exact ⟨_, rfl, by decide, h⟩⟩⟩
theorem fkC_swo : SWO (ltOf (fkC (N := N) (g := g) (w := w))) where
  irrefl x := by simp [ltOf, fkC, cmpS_self]
  trans x y z h k := by
    simp only [ltOf, fkC] at *
    have h' := of_decide_eq_true h; have k' := of_decide_eq_true k
    exact decide_eq_true (lt_trans h' k')
  ntrans x y z h k := by
    simp only [ltOf, decide_eq_false_iff_not, Int.not_lt] at *
    unfold fkC at *
    have h1 := cmpS_anti (nmF x.1.1) (nmF y.1.1); have h2 := cmpS_anti (nmF y.1.1) (nmF z.1.1); have h3 := cmpS_anti (nmF x.1.1) (nmF z.1.1)
    have := cmpS_trans (a := nmF z.1.1) (b := nmF y.1.1) (c := nmF x.1.1) (by omega) (by omega)
    omega
theorem flatF_get (U : List (FK N g w)) (t : Nat) (ht : t < U.length * 6) : (U.flatMap fkL)[t]? = some (flatK fkL 6 U.toArray)[t]! := by
  rw [get_flatK _ _ _ _ (by simpa using ht)]
  have h1 : t / 6 < U.length := by omega
  have h2 : U[t / 6]? = some U.toArray[t / 6]! := by rw [getElem!_pos U.toArray _ (by simpa using h1)]; simp [h1]
  have h3 : t % 6 < (fkL U.toArray[t / 6]!).length := by rw [fkL_len]; omega
  have := flat_get fkL_len U (t / 6) _ h2 (t % 6) _ (List.getElem?_eq_getElem h3)
  rw [show t / 6 * 6 + t % 6 = t by omega] at this
  rw [this, getElem!_pos (fkL U.toArray[t / 6]!) _ h3]
theorem fk_grown {v W : World} {blk off : Nat} {dk : Array (FK N g w)} (h : SWK fkL 6 v blk off dk W) : v.grownBy W (some blk) := by
  obtain ⟨n, os, rfl⟩ := h
  refine ⟨rfl, rfl, rfl, ?_, fun j hj hne => ?_⟩
  · unfold sortWorldK; rw [_root_.Go.Sort.size_grow, size_putRowK]; exact Nat.le_add_right _ _
  · unfold sortWorldK
    rw [_root_.Go.Sort.heap_grow_old _ _ (by rw [size_putRowK]; show j < v.heap.size; omega)]
    simp only [putRowK, putRow, mapBlock, Array.getElem?_modify]
    rw [if_neg (fun e => hne (by rw [e]))]; rfl
theorem kx_grown {W : World} (h : w.grownBy W (some g)) : KX N (some g) w W := fun q _ h2 h3 => h.block q h2 h3
theorem fk_lays (off size : Nat) : CmpLays Try.prog 34 #[] (fkL (N := N) (g := g) (w := w)) 6 fkC g off size w := fun m os dk _ x y => by
  have hW : KX N (some g) w (sortWorldK (fkL (N := N) (g := g) (w := w)) 6 w g off m dk os) := kx_grown (fk_grown ⟨m, os, rfl⟩)
  exact patch1_at x.1.1 y.1.1 _ _ _ (x.2 _ hW) (y.2 _ hW)
theorem own_fk {W : World} {cap : Nat} {e : TypeId} {cur : Array Value} {d : Array (FK N g w)} (hS : SWK fkL 6 w g 0 d W) (hb : N ≤ g) (hg : w.heap[g]? = some (.cells cur e (0, 0))) (hn : d.size ≤ cap) (hm : cap ≤ maxLen) (hs : cur.size = cap * 6) (H : HoldsK fkL 6 W g 0 d) :
    W.ownsRow N e 6 (.slice (some ⟨g, 0, none⟩) d.size cap) d.size (d.toList.flatMap fkL) := by
  have hblk : g < w.heap.size := (Array.getElem?_eq_some_iff.1 hg).1
  obtain ⟨n, os, rfl⟩ := hS
  obtain ⟨c2, h2, hsz⟩ : ∃ c2, (sortWorldK fkL 6 w g 0 n d os).heap[g]? = some (.cells c2 e (0, 0)) ∧ c2.size = cur.size := by
    refine ⟨putCells id 0 (flatK fkL 6 d) cur, ?_, by simp [putCells]⟩
    unfold sortWorldK
    rw [_root_.Go.Sort.heap_grow_old _ _ (by rw [size_putRowK]; exact hblk)]
    simp only [putRowK, putRow, mapBlock, Array.getElem?_modify]
    rw [if_pos trivial]
    show Option.map _ (w.heap[g]?) = _
    rw [hg]; rfl
  refine ⟨by rw [flat_length fkL_len]; simp, .inr ⟨g, cap, c2, rfl, hb, h2, hn, hm, by rw [hsz, hs], ?_⟩⟩
  apply List.ext_getElem?
  intro j
  by_cases hj : j < d.size * 6
  · rw [List.getElem?_take_of_lt hj, flatF_get d.toList j (by simpa using hj)]
    have h4 := (H j (by rw [size_flatK]; exact hj)).1
    simp only [World.cell?, h2, Nat.zero_add] at h4
    simpa using h4
  · rw [List.getElem?_take_eq_none (by omega), List.getElem?_eq_none]
    rw [flat_length fkL_len]; simpa using hj
end
theorem sortFld_at (N : Nat) (w : World) (fs : List F) (hl : fs.length ≤ 100000) (v : Value) (E : List (List Value)) (h : TopF N w fs v E) :
    Calls Try.prog 33 #[v, .func (.func 34) #[] #[]] w fun e w' => e = .returned (.tuple #[]) ∧ ∃ (S : List F) (E' : List (List Value)), S.Perm fs ∧ S.Pairwise (fun a b => cmpS (nmF a) (nmF b) ≤ 0) ∧ TopF N w' S v E' ∧ w.grownBy w' v.ownBlock := by
  obtain ⟨hown, hel⟩ := h
  rcases id hown with ⟨hx, ⟨rfl, h2⟩ | ⟨g, cap, cur, rfl, hb0, hg, hn, hm, hs, ht⟩⟩
  · obtain rfl := List.length_eq_zero_iff.1 h2
    refine (AnyF.slices_SortFunc_none Try.sortFld none 0 _ w).mono ?_
    rintro e w' ⟨rfl, rfl⟩
    exact ⟨rfl, [], [], List.Perm.refl _, List.Pairwise.nil, TopF.nil _ _, World.grownBy.refl _ _⟩
  · obtain ⟨S, hS1, hS2⟩ := zipK (R := fun f c => ∀ w', KX N (some g) w w' → RepF w' f c) hel
    change List (FK N g w) at S
    subst hS1
    rw [List.length_map] at *
    have hE : E.flatten = S.flatMap fkL := by rw [← hS2, List.flatMap_def]; rfl
    rw [hE] at ht
    have hH : HoldsK fkL 6 w g 0 S.toArray := by
      intro j hj
      rw [size_flatK] at hj
      have hj' : j < S.length * 6 := by simpa using hj
      have h3 := flatF_get S j hj'
      rw [← ht, List.getElem?_take_of_lt hj'] at h3
      constructor
      · simp only [World.cell?, hg, Nat.zero_add]
        simpa using h3
      · simp [World.frozen?, hg]
    have hblk : g < w.heap.size := (Array.getElem?_eq_some_iff.1 hg).1
    have hc := AnyQ.slices_SortFunc Try.sortFld 6 Try.isAgg38 Try.sizeOf38 (fkL (N := N) (g := g) (w := w)) fkL_len fkL_one fkC fkC_swo 34 #[] g 0 cap S.toArray w (enters_of Try.func34 (by kernel_rfl) rfl) (fk_lays 0 _) hH hblk (by simp; omega)
    rw [show S.toArray.size = S.length by simp] at hc
    refine hc.mono ?_
    rintro e w' ⟨rfl, d', n, os, hp, hso, hw⟩
    have hds : d'.size = S.length := by have := hp.1; simpa using this
    have hS : SWK fkL 6 w g 0 d' w' := ⟨n, os, hw⟩
    have hH2 : HoldsK fkL 6 w' g 0 d' := by rw [hw]; exact holdsK_sortWorldK fkL 6 w g 0 n S.toArray d' os hblk hH (by simpa using hds)
    have hgr := fk_grown hS
    refine ⟨rfl, d'.toList.map (fun x => x.1.1), d'.toList.map (fun x => x.1.2), ?_, ?_, ⟨?_, ?_⟩, hgr⟩
    · obtain ⟨h5, _, hq⟩ := hp
      have e1 : (d'.extract 0 S.length).toList = d'.toList := by rw [← hds]; simp
      have e2 : (S.toArray.extract 0 S.length).toList = S := by simp
      rw [e1, e2] at hq
      exact hq.map _
    · rw [List.pairwise_map, List.pairwise_iff_getElem]
      intro i j hi hj hij
      have hi' : i < d'.size := by simpa using hi
      have hj' : j < d'.size := by simpa using hj
      have := hso i j (by omega) hij (by omega)
      simp only [ltOf, decide_eq_false_iff_not] at this
      rw [getElem!_pos d' i hi', getElem!_pos d' j hj'] at this
      have h9 := cmpS_anti (nmF (d'[j]).1.1) (nmF (d'[i]).1.1)
      simp only [Array.getElem_toList]
      unfold fkC at this
      omega
    · have := own_fk hS hb0 hg (by rw [hds]; exact hn) hm hs hH2
      rw [hds, List.flatMap_def] at this
      rw [show (d'.toList.map (fun x => x.1.1)).length = S.length by simp [hds]]
      exact this
    · exact unzipK (R := fun _ _ => True) _ _ _ (fun x _ w'' k => x.2 w'' (KX.back hgr (.inl rfl) k))
end Fd
end Go.Proofs.Ytkjgifhklajifaa
