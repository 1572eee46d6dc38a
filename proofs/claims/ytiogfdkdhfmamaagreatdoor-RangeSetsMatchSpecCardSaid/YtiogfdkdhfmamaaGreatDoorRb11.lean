/- slices.SortFunc at cuts: a row of the call's own whose texts lie ahead of the call. -/
import Derived.Test.YtiogfdkdhfmamaaGreatDoorRb10
import Derived.Shelf.SlSortCmp.NoneTotal
import Derived.Sort.OwnSorted
namespace Go.Proofs.YtiogfdkdhfmamaaGreatDoor
open Go.RowKit Go.Sort Go.Shelf
namespace Rg
abbrev CK (w0 : World) := {x : CA // x.ok w0}
def ckL {w0 : World} (x : CK w0) : List Value := caL x.1
def ckC {w0 : World} (x y : CK w0) : Int := cmpC x.1.c y.1.c
instance ckInh (w0 : World) : Inhabited (CK w0) := ⟨⟨zeroA, zeroA_ok w0⟩⟩
theorem ckC_swo (w0 : World) : SWO (ltOf (ckC (w0 := w0))) where
  irrefl x := by simp [ltOf, ckC, linC.self]
  trans x y z h k := by
    simp only [ltOf, ckC] at *
    have h' := of_decide_eq_true h; have k' := of_decide_eq_true k
    exact decide_eq_true (linC.lt_le h' (by omega))
  ntrans x y z h k := by
    simp only [ltOf, decide_eq_false_iff_not, Int.not_lt] at *
    unfold ckC at *
    have h1 := linC.anti x.1.c y.1.c; have h2 := linC.anti y.1.c z.1.c; have h3 := linC.anti x.1.c z.1.c
    have := linC.trans z.1.c y.1.c x.1.c (by omega) (by omega)
    omega
theorem flatK_get {w0 : World} (U : List (CK w0)) (t : Nat) (ht : t < U.length * 5) : (U.flatMap ckL)[t]? = some (flatK ckL 5 U.toArray)[t]! := by
  rw [get_flatK _ _ _ _ (by simpa using ht)]
  have h1 : t / 5 < U.length := by omega
  have h2 : U[t / 5]? = some U.toArray[t / 5]! := by rw [getElem!_pos U.toArray _ (by simpa using h1)]; simp [h1]
  have hlen : ∀ x : CK w0, (ckL x).length = 5 := fun _ => rfl
  have h3 : t % 5 < (ckL U.toArray[t / 5]!).length := by rw [hlen]; omega
  have := flat_get hlen U (t / 5) _ h2 (t % 5) _ (List.getElem?_eq_getElem h3)
  rw [show t / 5 * 5 + t % 5 = t by omega] at this
  rw [this, getElem!_pos (ckL U.toArray[t / 5]!) _ h3]
theorem ck_grown {w0 w W : World} {blk off : Nat} {dk : Array (CK w0)} (h : SWK ckL 5 w blk off dk W) (_hblk : blk < w.heap.size) : w.grownBy W (some blk) := by
  obtain ⟨n, os, rfl⟩ := h
  refine ⟨rfl, rfl, rfl, ?_, fun j hj hne => ?_⟩
  · unfold sortWorldK; rw [_root_.Go.Sort.size_grow, size_putRowK]; exact Nat.le_add_right _ _
  · unfold sortWorldK
    rw [_root_.Go.Sort.heap_grow_old _ _ (by rw [size_putRowK]; show j < w.heap.size; omega)]
    simp only [putRowK, putRow, mapBlock, Array.getElem?_modify]
    rw [if_neg (fun e => hne (by rw [e]))]; rfl
theorem ck_lays {w0 w : World} (hb : Below w0.heap.size w0 w) (blk off size : Nat) (hblk : blk < w.heap.size) (hB : w0.heap.size ≤ blk) : CmpLays Tryz.prog 26 #[] (ckL (w0 := w0)) 5 ckC blk off size w := fun m os dk _ x y => by
  have hW : Below w0.heap.size w0 (sortWorldK ckL 5 w blk off m dk os) := hb.grown (ck_grown ⟨m, os, rfl⟩ hblk) hb.size (fun q hq => by cases hq; exact hB)
  refine (compareCuts_g x.1 y.1 _ (x.2.ext hW) (y.2.ext hW)).mono ?_
  rintro e w' ⟨rfl, hg⟩
  exact ⟨rfl, hg.form⟩
theorem own_ck {w0 w W : World} {base g cap : Nat} {e : TypeId} {cur : Array Value} {d : Array (CK w0)} (hS : SWK ckL 5 w g 0 d W) (hb : base ≤ g) (hg : w.heap[g]? = some (.cells cur e (0, 0))) (hn : d.size ≤ cap) (hm : cap ≤ maxLen) (hs : cur.size = cap * 5) (H : HoldsK ckL 5 W g 0 d) :
    W.ownsRow base e 5 (.slice (some ⟨g, 0, none⟩) d.size cap) d.size (d.toList.flatMap ckL) := by
  have hblk : g < w.heap.size := (Array.getElem?_eq_some_iff.1 hg).1
  have hlen : ∀ x : CK w0, (ckL x).length = 5 := fun _ => rfl
  obtain ⟨n, os, rfl⟩ := hS
  obtain ⟨c2, h2, hsz⟩ : ∃ c2, (sortWorldK ckL 5 w g 0 n d os).heap[g]? = some (.cells c2 e (0, 0)) ∧ c2.size = cur.size := by
    refine ⟨putCells id 0 (flatK ckL 5 d) cur, ?_, by simp [putCells]⟩
    unfold sortWorldK
    rw [_root_.Go.Sort.heap_grow_old _ _ (by rw [size_putRowK]; exact hblk)]
    simp only [putRowK, putRow, mapBlock, Array.getElem?_modify]
    rw [if_pos trivial]
    show Option.map _ (w.heap[g]?) = _
    rw [hg]; rfl
  refine ⟨by rw [flat_length hlen]; simp, .inr ⟨g, cap, c2, rfl, hb, h2, hn, hm, by rw [hsz, hs], ?_⟩⟩
  apply List.ext_getElem?
  intro j
  by_cases hj : j < d.size * 5
  · rw [List.getElem?_take_of_lt hj, flatK_get d.toList j (by simpa using hj)]
    have h4 := (H j (by rw [size_flatK]; exact hj)).1
    simp only [World.cell?, h2, Nat.zero_add] at h4
    simpa using h4
  · rw [List.getElem?_take_eq_none (by omega), List.getElem?_eq_none]
    rw [flat_length hlen]; simpa using hj
theorem sortCut_at (w0 w : World) (hb : Below w0.heap.size w0 w) (U : List CA) (hok : ∀ c ∈ U, c.ok w0) (hl : U.length ≤ 100000) (v : Value) (hown : OC w w0.heap.size v U) :
    Calls Tryz.prog 25 #[v, .func (.func 26) #[] #[]] w fun e w' => e = .returned (.tuple #[]) ∧ ∃ U' : List CA, U'.Perm U ∧ U'.Pairwise (fun a b => cmpC a.c b.c ≤ 0) ∧ OC w' w0.heap.size v U' ∧ w.grownBy w' v.ownBlock := by
  obtain ⟨S, hS⟩ : ∃ S : List (CK w0), S.map (·.1) = U := ⟨U.attachWith (fun x => x.ok w0) hok, by simp⟩
  subst hS
  have hfl : ∀ Z : List (CK w0), (Z.map (·.1)).flatMap caL = Z.flatMap ckL := fun Z => by rw [List.flatMap_map]; rfl
  have hlen : ∀ x : CK w0, (ckL x).length = 5 := fun _ => rfl
  rw [List.length_map] at hl
  unfold OC at hown
  rw [List.length_map, hfl] at hown
  obtain ⟨h1, ⟨rfl, h2⟩ | ⟨g, cap, cur, rfl, hb0, hg, hn, hm, hs, ht⟩⟩ := hown
  · obtain rfl := List.length_eq_zero_iff.1 h2
    refine (AnyF.slices_SortFunc_none Tryz.sortCut none 0 _ w).mono ?_
    rintro e w' ⟨rfl, rfl⟩
    exact ⟨rfl, [], List.Perm.refl _, List.Pairwise.nil, World.ownsRow_nil _ _ _ _, World.grownBy.refl _ _⟩
  · have hH : HoldsK ckL 5 w g 0 S.toArray := by
      intro j hj
      rw [size_flatK] at hj
      have hj' : j < S.length * 5 := by simpa using hj
      have h3 := flatK_get S j hj'
      rw [← ht, List.getElem?_take_of_lt hj'] at h3
      constructor
      · simp only [World.cell?, hg, Nat.zero_add]
        simpa using h3
      · simp [World.frozen?, hg]
    have hblk : g < w.heap.size := (Array.getElem?_eq_some_iff.1 hg).1
    have hc := AnyQ.slices_SortFunc Tryz.sortCut 5 Tryz.isAgg31 Tryz.sizeOf31 (ckL (w0 := w0)) hlen (fun x => caL_one x.1) ckC (ckC_swo w0) 26 #[] g 0 cap S.toArray w (enters_of Tryz.func26 (by kernel_rfl) rfl) (ck_lays hb g 0 _ hblk hb0) hH hblk (by simp; omega)
    rw [show S.toArray.size = S.length by simp] at hc
    refine hc.mono ?_
    rintro e w' ⟨rfl, d', n, os, hp, hso, hw⟩
    have hds : d'.size = S.length := by have := hp.1; simpa using this
    have hS : SWK ckL 5 w g 0 d' w' := ⟨n, os, hw⟩
    have hH2 : HoldsK ckL 5 w' g 0 d' := by rw [hw]; exact holdsK_sortWorldK ckL 5 w g 0 n S.toArray d' os hblk hH (by simpa using hds)
    refine ⟨rfl, d'.toList.map (·.1), ?_, ?_, ?_, ck_grown hS hblk⟩
    · obtain ⟨h5, _, hq⟩ := hp
      have e1 : (d'.extract 0 S.length).toList = d'.toList := by rw [← hds]; simp
      have e2 : (S.toArray.extract 0 S.length).toList = S := by simp
      rw [e1, e2] at hq
      exact hq.map _
    · rw [List.pairwise_map, List.pairwise_iff_getElem]
      intro i j hi hj hij
      have hi' : i < d'.size := by simpa using hi
      have hj' : j < d'.size := by simpa using hj
      have := hso i j (by omega) hij (by omega)
      simp only [ltOf, decide_eq_false_iff_not] at this
      rw [getElem!_pos d' i hi', getElem!_pos d' j hj'] at this
      have h9 := linC.anti (d'[j]).1.c (d'[i]).1.c
      simp only [Array.getElem_toList]
      unfold ckC at this
      omega
    · have := own_ck hS hb0 hg (by rw [hds]; exact hn) hm hs hH2
      rw [hds] at this
      show w'.ownsRow _ _ 5 _ (d'.toList.map (·.1)).length _
      rw [hfl, show (d'.toList.map (·.1)).length = S.length by simp [hds]]
      exact this
end Rg
end Go.Proofs.YtiogfdkdhfmamaaGreatDoor
