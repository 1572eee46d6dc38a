/- slices.SortFunc at subjects, slices.Sort at texts: rows of the call's own. -/
import Derived.Test.YtacchooggifnhaaTw05
import Derived.Test.YtacchooggifnhaaShelf
import Derived.Shelf.SlSortCmp.NoneTotal
import Derived.Sort.OwnSorted
namespace Go.Proofs.Ytacchooggifnhaa
open Go.RowKit Go.Sort Go.Shelf
namespace Ex
/-- sorted by key; in order -/
def SrtK (l : List Sbj) : Prop := l.Pairwise (fun a b => ¬ cmpS b.key a.key < 0)
def SrtB (l : List ByteArray) : Prop := l.Pairwise (fun a b => ¬ cmpS b a < 0)
instance : Inhabited Sbj := ⟨⟨⟨#[]⟩, 0, 0, 0, 0, 0, 0, false⟩⟩
def cmpK (a b : Sbj) : Int := cmpS a.key b.key
theorem cmpK_swo : SWO (ltOf cmpK) where
  irrefl x := by simp [ltOf, cmpK, cmpS_self]
  trans x y z h k := by simp only [ltOf, decide_eq_true_eq] at *; exact cmpS_ltt h k
  ntrans x y z h k := by
    simp only [ltOf, decide_eq_false_iff_not, Int.not_lt] at *
    unfold cmpK at *
    have h1 := cmpS_anti x.key y.key; have h2 := cmpS_anti y.key z.key; have h3 := cmpS_anti x.key z.key
    have := @cmpS_trans z.key y.key x.key (by omega) (by omega)
    omega
set_option maxHeartbeats 1000000 in
theorem key_cmp (x y : Sbj) (W : World) : Calls Try.prog 45 #[.agg (sbC x), .agg (sbC y)] W fun e w' => e = .returned (.int .i64 (cmpK x y)) ∧ ∃ q os', w' = grow (W.drewN q) os' := by
  go_enter Try.func45, Try.ntmps45
  go_wp2_with (go_at_call 46; refine (strings_Compare _ _ _).mono ?_; rintro e w' ⟨rfl, rfl⟩)
  go_ret
  exact ⟨rfl, 0, _, by rw [alloc_eq_grow, alloc_eq_grow, grow_grow]; rfl⟩
theorem key_lays (blk off size : Nat) (w : World) : CmpLays Try.prog 45 #[] sbL 8 cmpK blk off size w := fun _ _ _ _ x y => key_cmp x y _
theorem flatS_get (U : List Sbj) (t : Nat) (ht : t < U.length * 8) : (U.flatMap sbL)[t]? = some (flatK sbL 8 U.toArray)[t]! := by
  rw [get_flatK _ _ _ _ (by simpa using ht)]
  have h1 : t / 8 < U.length := by omega
  have h2 : U[t / 8]? = some U.toArray[t / 8]! := by rw [getElem!_pos U.toArray _ (by simpa using h1)]; simp [h1]
  have h3 : t % 8 < (sbL U.toArray[t / 8]!).length := by rw [sbL_len]; omega
  have := flat_get sbL_len U (t / 8) _ h2 (t % 8) _ (List.getElem?_eq_getElem h3)
  rw [show t / 8 * 8 + t % 8 = t by omega] at this
  rw [this, getElem!_pos (sbL U.toArray[t / 8]!) _ h3]
theorem swk_grown {enc : Sbj → List Value} {k : Nat} {w0 W : World} {blk off : Nat} {dk : Array Sbj} (h : SWK enc k w0 blk off dk W) (_hblk : blk < w0.heap.size) : w0.grownBy W (some blk) := by
  obtain ⟨n, os, rfl⟩ := h
  refine ⟨rfl, rfl, rfl, ?_, fun j hj hne => ?_⟩
  · unfold sortWorldK; rw [_root_.Go.Sort.size_grow, size_putRowK]; exact Nat.le_add_right _ _
  · unfold sortWorldK
    rw [_root_.Go.Sort.heap_grow_old _ _ (by rw [size_putRowK]; show j < w0.heap.size; omega)]
    simp only [putRowK, putRow, mapBlock, Array.getElem?_modify]
    rw [if_neg (fun e => hne (by rw [e]))]; rfl
theorem own_swk {w W : World} {base g cap : Nat} {e : TypeId} {cur : Array Value} {d : Array Sbj} (hS : SWK sbL 8 w g 0 d W) (hb : base ≤ g) (hg : w.heap[g]? = some (.cells cur e (0, 0))) (hn : d.size ≤ cap) (hm : cap ≤ maxLen) (hs : cur.size = cap * 8) (H : HoldsK sbL 8 W g 0 d) :
    W.ownsRow base e 8 (.slice (some ⟨g, 0, none⟩) d.size cap) d.size (d.toList.flatMap sbL) := by
  have hblk : g < w.heap.size := (Array.getElem?_eq_some_iff.1 hg).1
  obtain ⟨n, os, rfl⟩ := hS
  obtain ⟨c2, h2, hsz⟩ : ∃ c2, (sortWorldK sbL 8 w g 0 n d os).heap[g]? = some (.cells c2 e (0, 0)) ∧ c2.size = cur.size := by
    refine ⟨putCells id 0 (flatK sbL 8 d) cur, ?_, by simp [putCells]⟩
    unfold sortWorldK
    rw [_root_.Go.Sort.heap_grow_old _ _ (by rw [size_putRowK]; exact hblk)]
    simp only [putRowK, putRow, mapBlock, Array.getElem?_modify]
    rw [if_pos trivial]
    show Option.map _ (w.heap[g]?) = _
    rw [hg]; rfl
  refine ⟨by rw [flat_length (f := sbL) (sz := 8) (fun _ => rfl)]; simp, .inr ⟨g, cap, c2, rfl, hb, h2, hn, hm, by rw [hsz, hs], ?_⟩⟩
  apply List.ext_getElem?
  intro j
  by_cases hj : j < d.size * 8
  · rw [List.getElem?_take_of_lt hj, flatS_get d.toList j (by simpa using hj)]
    have h4 := (H j (by rw [size_flatK]; exact hj)).1
    simp only [World.cell?, h2, Nat.zero_add] at h4
    simpa using h4
  · rw [List.getElem?_take_eq_none (by omega), List.getElem?_eq_none]
    rw [flat_length (f := sbL) (sz := 8) (fun _ => rfl)]; simpa using hj
theorem sortSbj_at (base : Nat) (S : List Sbj) (hl : S.length ≤ 20000) (v : Value) (w : World) (hB : base ≤ w.heap.size) (hown : w.ownsRow base 32 8 v S.length (S.flatMap sbL)) :
    Calls Try.prog 44 #[v, .func (.func 45) #[] #[]] w fun e w' => e = .returned (.tuple #[]) ∧ ∃ S' : List Sbj, S'.Perm S ∧ SrtK S' ∧ w'.ownsRow base 32 8 v S.length (S'.flatMap sbL) ∧ w.grownBy w' v.ownBlock := by
  obtain ⟨h1, ⟨rfl, h2⟩ | ⟨g, cap, cur, rfl, hb, hg, hn, hm, hs, ht⟩⟩ := hown
  · obtain rfl := List.length_eq_zero_iff.1 h2
    refine (AnyF.slices_SortFunc_none Try.sortSbj none 0 _ w).mono ?_
    rintro e w' ⟨rfl, rfl⟩
    exact ⟨rfl, [], List.Perm.refl _, List.Pairwise.nil, World.ownsRow_nil _ _ _ _, World.grownBy.refl _ _⟩
  · have hH : HoldsK sbL 8 w g 0 S.toArray := by
      intro j hj
      rw [size_flatK] at hj
      have hj' : j < S.length * 8 := by simpa using hj
      have h3 := flatS_get S j hj'
      rw [← ht, List.getElem?_take_of_lt hj'] at h3
      constructor
      · simp only [World.cell?, hg, Nat.zero_add]
        simpa using h3
      · simp [World.frozen?, hg]
    have hblk : g < w.heap.size := (Array.getElem?_eq_some_iff.1 hg).1
    have hc := AnyQ.slices_SortFunc Try.sortSbj 8 Try.isAgg32 Try.sizeOf32 sbL sbL_len sbL_one cmpK cmpK_swo 45 #[] g 0 cap S.toArray w (enters_of Try.func45 (by kernel_rfl) rfl) (key_lays g 0 _ w) hH hblk (by simp; omega)
    rw [show S.toArray.size = S.length by simp] at hc
    refine hc.mono ?_
    rintro e w' ⟨rfl, d', n, os, hp, hso, hw⟩
    have hds : d'.size = S.length := by have := hp.1; simpa using this
    have hS : SWK sbL 8 w g 0 d' w' := ⟨n, os, hw⟩
    have hH2 : HoldsK sbL 8 w' g 0 d' := by rw [hw]; exact holdsK_sortWorldK sbL 8 w g 0 n S.toArray d' os hblk hH (by simpa using hds)
    refine ⟨rfl, d'.toList, ?_, ?_, ?_, swk_grown hS hblk⟩
    · obtain ⟨h5, _, hq⟩ := hp
      have e1 : (d'.extract 0 S.length).toList = d'.toList := by rw [← hds]; simp
      have e2 : (S.toArray.extract 0 S.length).toList = S := by simp
      rw [e1, e2] at hq
      exact hq
    · unfold SrtK
      rw [List.pairwise_iff_getElem]
      intro i j hi hj hij
      have hi' : i < d'.size := by simpa using hi
      have hj' : j < d'.size := by simpa using hj
      have := hso i j (by omega) hij (by omega)
      simp only [ltOf, decide_eq_false_iff_not] at this
      rw [getElem!_pos d' i hi', getElem!_pos d' j hj'] at this
      simpa [cmpK] using this
    · have := own_swk hS hb hg (by rw [hds]; exact hn) hm hs hH2
      rw [hds] at this; exact this
theorem bytes_less : ∀ (b a : List UInt8), Op.bytesLess b a = true → b < a
  | [], [], h => by simp [Op.bytesLess] at h
  | [], x :: a, _ => List.nil_lt_cons x a
  | y :: b, [], h => by simp [Op.bytesLess] at h
  | y :: b, x :: a, h => by
    rw [List.cons_lt_cons_iff]
    simp only [Op.bytesLess, Bool.or_eq_true, Bool.and_eq_true, decide_eq_true_eq, beq_iff_eq] at h
    rcases h with h | ⟨h1, h2⟩
    · exact .inl h
    · exact .inr ⟨h1, bytes_less b a h2⟩
theorem bytes_lt (a b : List UInt8) (h : Lib.compareBytes b a < 0) : ¬ a ≤ b := fun k => k (bytes_less b a (by rw [less_iff]; exact decide_eq_true h))
theorem sortStr_at (base : Nat) (S : List ByteArray) (hl : S.length ≤ 20000) (v : Value) (w : World) (hB : base ≤ w.heap.size) (hown : w.ownsRow base 9 1 v S.length (S.map Value.string)) :
    Calls Try.prog 47 #[v] w fun e w' => e = .returned (.tuple #[]) ∧ ∃ S' : List ByteArray, S'.Perm S ∧ SrtB S' ∧ w'.ownsRow base 9 1 v S.length (S'.map Value.string) ∧ w.grownBy w' v.ownBlock := by
  obtain ⟨h1, ⟨rfl, h2⟩ | ⟨g, cap, cur, rfl, hb, hg, hn, hm, hs, ht⟩⟩ := hown
  · obtain rfl := List.length_eq_zero_iff.1 h2
    refine (Try.slices_Sort_string_none none 0 w).mono ?_
    rintro e w' ⟨rfl, rfl⟩
    exact ⟨rfl, [], List.Perm.refl _, List.Pairwise.nil, World.ownsRow_nil _ _ _ _, World.grownBy.refl _ _⟩
  · obtain ⟨ss, hss⟩ : ∃ z, S.map (·.data.toList) = z := ⟨_, rfl⟩
    have hlen : ss.length = S.length := by rw [← hss, List.length_map]
    have hen : ss.map encStr = S.map Value.string := by
      rw [← hss, List.map_map]
      exact List.map_congr_left fun x _ => by obtain ⟨⟨l⟩⟩ := x; rfl
    have hc := Try.slices_Sort_string g 0 cap ss w (holds_of_block hg (by rw [hen, hlen]; simpa using ht)) (Array.getElem?_eq_some_iff.1 hg).1 (by omega)
    rw [hlen] at hc
    refine hc.mono ?_
    rintro e w' ⟨rfl, n, os, rfl⟩
    obtain ⟨ts, hts⟩ : ∃ z, (ss.mergeSort fun x y => decide (x ≤ y)) = z := ⟨_, rfl⟩
    have hperm : ts.Perm ss := by rw [← hts]; exact List.mergeSort_perm _ _
    rw [hts]
    have hown2 := ownsRow_sorted (ts := ts) (n := n) (os := os) hperm.length_eq hb hg (by rw [hlen]; exact hn) hm (by simpa using hs)
    refine ⟨rfl, ts.map (fun l => (⟨l.toArray⟩ : ByteArray)), ?_, ?_, ?_, grownBy_sorted _⟩
    · have := hperm.map (fun l => (⟨l.toArray⟩ : ByteArray))
      rw [← hss, List.map_map] at this
      have e9 : S.map ((fun l => (⟨l.toArray⟩ : ByteArray)) ∘ fun x => x.data.toList) = S := by
        conv => rhs; rw [← List.map_id S]
        exact List.map_congr_left fun x _ => by obtain ⟨⟨l⟩⟩ := x; rfl
      rw [e9] at this; exact this
    · unfold SrtB
      rw [List.pairwise_map]
      have hsrt : ts.Pairwise (fun a b => a ≤ b) := by
        rw [← hts]
        have := List.pairwise_mergeSort (le := fun x y : List UInt8 => decide (x ≤ y)) (fun a b c => by simp only [decide_eq_true_eq]; exact List.le_trans) (fun a b => by simp only [Bool.or_eq_true, decide_eq_true_eq]; exact List.le_total a b) ss
        exact this.imp (fun h => by simpa using h)
      exact hsrt.imp (fun {a b} h k => bytes_lt a b k h)
    · have h9 := hown2
      rw [hlen] at h9
      have e8 : ts.map encStr = (ts.map (fun l => (⟨l.toArray⟩ : ByteArray))).map Value.string := by rw [List.map_map]; rfl
      rw [e8] at h9; exact h9
end Ex
end Go.Proofs.Ytacchooggifnhaa
