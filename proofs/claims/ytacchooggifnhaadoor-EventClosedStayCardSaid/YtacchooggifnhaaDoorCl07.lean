/- slices.Compact at structs of k cells. slices.SortFunc at subjects, slices.Sort at texts: rows of the call's own. -/
import Derived.Test.YtacchooggifnhaaDoorCl06
import Derived.Test.YtacchooggifnhaaDoorCl00
import Derived.Shelf.RegionOpenPlain
import Derived.Lib.SlicesCompact
import Derived.Test.YtacchooggifnhaaDoorCl05
import Derived.Test.YtacchooggifnhaaDoorShelf
import Derived.Shelf.SlSortCmp.NoneTotal
import Derived.Sort.OwnSorted
namespace Go.Proofs.YtacchooggifnhaaDoor
namespace St
open Go.Shelf Go.RowKit Go.Lib Go.Sort
variable {P : Program} {α : Type} [Inhabited α]
theorem setMany_put (enc : α → List Value) (k : Nat) (hk : ∀ x, (enc x).length = k) (d : Array α) (i : Nat) (hi : i < d.size) (y : α) :
    setMany (flatK enc k d) (i * k) (enc y) = flatK enc k (d.setIfInBounds i y) := by
  refine ext_get! (by simp) fun t ht => ?_
  have ht' : t < d.size * k := by simpa using ht
  have k0 : 0 < k := by
    rcases Nat.eq_zero_or_pos k with h | h
    · subst h; simp at ht'
    · exact h
  rw [get_setMany _ _ _ t (by simpa using ht'), get_flatK _ _ _ t ht', get_flatK _ _ _ t (by simpa using ht'), hk]
  have m : ∀ q, t / k = q → t - q * k = t % k := fun q h => by subst h; rw [Nat.mod_eq_sub_div_mul]
  by_cases a : t / k = i
  · rw [if_pos ((blk_iff k i t k0).2 a), m i a, a, getElem!_set_same d i y hi]
  · rw [if_neg (fun h => a ((blk_iff k i t k0).1 h)), getElem!_set_other d i (t / k) y a]
variable {enc : α → List Value} {k : Nat} {w0 W : World} {blk off : Nat} {dk d0 : Array α}
theorem SWK.put (h : SWK enc k w0 blk off dk W) (R : RowK enc k w0 blk off d0) (i : Nat) (hi : i < dk.size) (y : α) :
    SWK enc k w0 blk off (dk.setIfInBounds i y) (W.setCells blk (off + i * k) (enc y)) := by
  obtain ⟨n, os, rfl⟩ := h
  refine ⟨n, os, ?_⟩
  unfold sortWorldK
  rw [setCells_grow os blk _ _ _ (by show blk < (putRowK enc k _ blk off dk).heap.size; rw [size_putRowK]; exact R.hblk)]
  congr 1
  unfold putRowK
  rw [setCells_putRow _ _ _ _ _ _ (by rw [R.hk, size_flatK]; exact rowK_bnd dk k i hi), setMany_put enc k R.hk dk i hi]
theorem SWK.st0 (h : SWK enc k w0 blk off dk W) (R : RowK enc k w0 blk off d0) (hs : dk.size = d0.size) (P : Program) (i : Nat) (hi : i < dk.size) (y : α) :
    Sem.run P (storeCells ⟨blk, off + i * k, none⟩ (enc y) 0) W = .ok () (W.setCells blk (off + i * k) (enc y)) :=
  stores_of_holds P (h.holds R.hblk R.hH hs) (i * k) _ (by rw [R.hk, size_flatK]; exact rowK_bnd dk k i hi) (R.h1 _)
/-- clear(s) at structs: the cells hold zero values; nothing else turns. -/
theorem run_clear_k (w : World) (t e ty : TypeId) (zc : Array Value) (ht : P.underlying t = some (.slice e)) (hv : ∀ w, (zeroValue e).run P w = .ok (.agg zc) w) (h1 : ∀ v ∈ zc.toList, v.oneCell' = true) (hz : 0 < zc.size) (b o n c : Nat) (hn : 0 < n)
    (hc : ∀ j, j < n * zc.size → (w.cell? ⟨b, o + j, none⟩).isSome = true) (hf : ∀ j, j < n * zc.size → w.frozen? ⟨b, o + j, none⟩ = false) :
    (Builtin.clear_ #[t] ty #[.slice (some ⟨b, o, none⟩) n c]).run P w = .ok (.tuple #[]) (w.setCells b o (Builtin.zeroCells zc n).toList) := by
  have hl : (Builtin.zeroCells zc n).toList.length = n * zc.size := by simp [size_zeroCells]
  have hst := run_storeCells_cells (P := P) b o (Builtin.zeroCells zc n).toList 0 w (by intro j hj; rw [hl] at hj; rw [Nat.add_zero]; exact hc j hj) (by intro j hj; rw [hl] at hj; rw [Nat.add_zero]; exact hf j hj)
    (by
      intro v hv'
      simp only [Builtin.zeroCells, Array.toList_map, List.mem_map] at hv'
      obtain ⟨i, _, rfl⟩ := hv'
      have hi : i % zc.size < zc.size := Nat.mod_lt _ hz
      refine h1 _ ?_
      first | (rw [getElem!_pos zc _ hi]; exact Array.getElem_mem_toList hi) | (rw [Array.getD_eq_getD_getElem?, Array.getElem?_eq_getElem hi]; exact Array.getElem_mem_toList hi))
  simp only [Nat.add_zero] at hst
  obtain ⟨m, rfl⟩ : ∃ m, n = m + 1 := ⟨n - 1, by omega⟩
  simp [Builtin.clear_, run_underlying ht, hv, Value.cells, hst]
theorem below_setCells {B b : Nat} (hB : B ≤ b) : ∀ (vs : List Value) (o : Nat) (w : World), Below B w (w.setCells b o vs)
  | [], _, _ => Below.refl _ _
  | v :: r, o, w => ((Below.refl B w).setCell hB v).trans (below_setCells hB r (o + 1) (w.setCell ⟨b, o, none⟩ v))
theorem cell_setCells_lt {b j : Nat} : ∀ (vs : List Value) (o : Nat) (w : World), j < o → (w.setCells b o vs).cell? ⟨b, j, none⟩ = w.cell? ⟨b, j, none⟩
  | [], _, _, _ => rfl
  | v :: r, o, w, h => by
    rw [World.setCells, cell_setCells_lt r (o + 1) _ (by omega), World.cell?_setCell_other _ _ _ _ (by simp; first | done | omega)]
theorem SWK.below {B : Nat} (h : SWK enc k w0 blk off dk W) (hB : B ≤ blk) (hblk : blk < w0.heap.size) : Below B w0 W := by
  obtain ⟨n, os, rfl⟩ := h
  refine ⟨rfl, rfl, rfl, ?_, fun j hj => ?_⟩
  · unfold sortWorldK; rw [_root_.Go.Sort.size_grow, size_putRowK]; exact Nat.le_add_right _ _
  · unfold sortWorldK
    rw [_root_.Go.Sort.heap_grow_old _ _ (by rw [size_putRowK]; show j < w0.heap.size; omega)]
    simp only [putRowK, putRow, mapBlock, Array.getElem?_modify]
    rw [if_neg (by omega)]; rfl
omit [Inhabited α] in
theorem flat_inv {f : α → List Value} (hk : ∀ x, (f x).length = k) (k0 : 0 < k) : ∀ (l : List α) (i : Nat) (v : Value), (l.flatMap f)[i]? = some v → ∃ y, l[i / k]? = some y ∧ (f y)[i % k]? = some v
  | [], _, _, h => by simp at h
  | x :: l, i, v, h => by
    rw [List.flatMap_cons] at h
    by_cases hi : i < k
    · rw [List.getElem?_append_left (by rw [hk]; exact hi)] at h
      rw [Nat.div_eq_of_lt hi, Nat.mod_eq_of_lt hi]
      exact ⟨x, rfl, h⟩
    · rw [List.getElem?_append_right (by rw [hk]; omega), hk] at h
      obtain ⟨y, h1, h2⟩ := flat_inv hk k0 l (i - k) v h
      have e1 : i / k = (i - k) / k + 1 := by rw [Nat.div_eq_sub_div k0 (by omega)]
      have e2 : i % k = (i - k) % k := Nat.mod_eq_sub_mod (by omega)
      exact ⟨y, by rw [e1]; exact h1, by rw [e2]; exact h2⟩
omit [Inhabited α] in
theorem sl_of_cells {cap : Nat} (hk : ∀ x, (enc x).length = k) (k0 : 0 < k) (l : List α) (hcap : l.length ≤ cap) (hm : cap ≤ maxLen)
    (h : ∀ j y, l[j]? = some y → ∀ q v, (enc y)[q]? = some v → W.cell? ⟨blk, off + j * k + q, none⟩ = some v) : Sl W (.slice (some ⟨blk, off, none⟩) l.length cap) l.length (l.flatMap enc) := by
  refine ⟨_, _, rfl, hcap, hm, (fun h => by cases h), fun i x hx => ⟨_, _, rfl, ?_⟩⟩
  obtain ⟨y, h1, h2⟩ := flat_inv hk k0 l i x hx
  have := h _ _ h1 _ _ h2
  rw [show off + i / k * k + i % k = off + i by rw [Nat.add_assoc, Nat.mul_comm, Nat.div_add_mod]] at this
  exact this
/-- What Compact leaves. -/
def CptPost (enc : α → List Value) (blk off cap : Nat) (l : List α) (w : World) (e : Ending) (w' : World) : Prop :=
  e = .returned (.slice (some ⟨blk, off, none⟩) l.length cap) ∧ Sl w' (.slice (some ⟨blk, off, none⟩) l.length cap) l.length (l.flatMap enc) ∧ ∀ B, B ≤ blk → Below B w w'
theorem cpt_post {cap : Nat} {w : World} {d : Array α} (R : RowK enc k w blk off d) (k0 : 0 < k) (hs : dk.size = d.size) (S : SWK enc k w blk off dk W) (l : List α) (hl : l.length ≤ dk.size) (hlow : ∀ j, j < l.length → l[j]? = some dk[j]!) (hcap : d.size ≤ cap) (hm : cap ≤ maxLen)
    (o : Nat) (ho : off + l.length * k ≤ o) (vs : List Value) : CptPost enc blk off cap l w (.returned (.slice (some ⟨blk, off, none⟩) l.length cap)) (W.setCells blk o vs) := by
  refine ⟨rfl, sl_of_cells R.hk k0 l (by omega) hm fun j y hy q v hv => ?_, fun B hB => (SWK.below S hB R.hblk).trans (below_setCells hB _ _ _)⟩
  have hj : j < l.length := (List.getElem?_eq_some_iff.1 hy).1
  have hq : q < k := by have := (List.getElem?_eq_some_iff.1 hv).1; rwa [R.hk] at this
  have hb : (j + 1) * k ≤ l.length * k := Nat.mul_le_mul_right k hj
  rw [Nat.add_mul, Nat.one_mul] at hb
  rw [cell_setCells_lt _ _ _ (by omega), ((S.holds R.hblk R.hH hs).cell (by omega) hq).1]
  rw [hlow j hj] at hy
  obtain rfl := Option.some.inj hy
  rw [getElem!_pos (enc dk[j]!) q (by rw [R.hk]; exact hq)]
  rw [List.getElem?_eq_getElem (by rw [R.hk]; exact hq)] at hv
  exact hv
variable [DecidableEq α]
set_option maxHeartbeats 8000000 in
set_option maxRecDepth 1000000 in
theorem compact_at (k : Nat) (L : Lay P k) (FG : P.funcs[44]? = some Tryd.f44) (enc : α → List Value)
    (heq : ∀ (x y : α) (w : World), Sem.run P (binOp .eql 43 (.agg (enc x).toArray) (.agg (enc y).toArray)) w = .ok (.bool (decide (x = y))) w)
    (hne : ∀ (x y : α) (w : World), Sem.run P (binOp .neq 43 (.agg (enc x).toArray) (.agg (enc y).toArray)) w = .ok (.bool (!decide (x = y))) w)
    (hgd : ∀ (op : BinOp) (a b : Operand) (x y : α) (w : World), Sem.run P (eqGuard op 43 a b (.agg (enc x).toArray) (.agg (enc y).toArray)) w = .ok () w)
    (zc : Array Value) (hzc : zc.size = k) (h1 : ∀ v ∈ zc.toList, v.oneCell' = true) (k0 : 0 < k) (vE : ∀ w, (zeroValue 43).run P w = .ok (.agg zc) w)
    (blk off cap : Nat) (d : Array α) (w : World) (R : RowK enc k w blk off d) (hsz : d.size < 4611686018427387904) (hcap : d.size ≤ cap) (hcm : cap ≤ maxLen) :
    Calls P 44 #[.slice (some ⟨blk, off, none⟩) d.size cap] w (CptPost enc blk off cap (compactUpTo d d.size) w) := by
  have mixed := L.mixed; have t0 := L.t0; have a0 := L.a0; have z0 := L.z0; have v0 := L.v0; have t3 := L.t3; have a3 := L.a3; have z3 := L.z3; have v3 := L.v3; have t4 := L.t4; have a4 := L.a4; have z4 := L.z4; have v4 := L.v4; have tS := L.tS; have aS := L.aS; have zS := L.zS; have vS := L.vS; have aE := L.aE; have zE := L.zE
  have HS : Aside (∀ W, SWK enc k w blk off d W → (∀ j, j < d.size → keeps d j = true) → CptPost enc blk off cap (compactUpTo d d.size) w (.returned (.slice (some ⟨blk, off, none⟩) d.size cap)) W) := by
    intro W hW hall
    have e : compactUpTo d d.size = d.toList := by rw [compactUpTo_all d _ hall, range_map_get]
    rw [e]
    have := cpt_post R k0 rfl hW d.toList (by simp) (fun j hj => by have hj' : j < d.size := by simpa using hj
                                                                    rw [getElem!_pos d j hj']; simp [hj']) hcap hcm (off + d.toList.length * k) (Nat.le_refl _) []
    simpa [World.setCells] using this
  have HCM := Lib.hid hcm
  clear hcm
  have S0 : Aside (SWK enc k w blk off d w) := SWK.start R.hH
  have HE : Aside _ := heq
  have HNE : Aside _ := hne
  have HV : Aside _ := vE
  have H1 : Aside _ := h1
  clear heq hne vE h1
  by_cases h2 : d.size < 2
  · go_enter FG, Tryd.ntmps44
    go_wp2
    go_ret
    exact HS.out _ S0.out (fun j hj => keeps_lt_one d j (by omega))
  · go_enter FG, Tryd.ntmps44
    go_wp2
    go_loopg [3] d.size (fun g s3 wr => ∃ i : Nat, i + 1 ≤ d.size ∧ d.size - i ≤ g ∧ s3 = .int .i64 ((i : Int) + 1) ∧ Aside (SWK enc k w blk off d wr) ∧ Hid (∀ j, j < i + 1 → keeps d j = true))
    case atStart => exact ⟨0, by omega, by omega, rfl, S0, keeps_lt_one d⟩
    case round =>
      clear S0
      obtain ⟨i, hi, hg, rfl, S1, HK⟩ := hrel
      by_cases hlt : i + 1 < d.size
      · have hi0 : (0 : Int) ≤ (i : Int) := Int.natCast_nonneg _
        have hi1 : (i : Int) < (d.size : Int) := by omega
        have hj0 : (0 : Int) ≤ (i : Int) + 1 := by omega
        have hj1 : (i : Int) + 1 < (d.size : Int) := by omega
        have hw0 : IntKind.i64.wrap (i : Int) = (i : Int) := by rw [IntKind.wrap_i64]; omega
        have ht1 : ((i : Int) + 1).toNat = i + 1 := by omega
        have l1 := S1.out.ld1 R rfl P (i + 1) hlt
        have l0 := S1.out.ld1 R rfl P i (by omega)
        have hx : Hid (∃ x y, d[i + 1]! = x ∧ d[i]! = y) := ⟨_, _, rfl, rfl⟩
        generalize hX : d[i + 1]! = x at l1
        generalize hY : d[i]! = y at l0
        have HX := Lib.hid hX
        have HY := Lib.hid hY
        clear hX hY hx
        have h1 := HE.out x y
        by_cases hdup : x = y
        · subst hdup
          have hdd : decide (x = x) = true := by simp
          rw [hdd] at h1
          clear hdd
          have g1 := fun op a b w => hgd op a b x x w
          have HN : Hid (keeps d (i + 1) = false) := keeps_neg (by omega) (by rw [HX.out]; exact HY.out.symm)
          have S2 : Aside (SWK enc k w blk off d wr.drew) := S1.out.drew
          clear S1
          go_wp2_with fail
          go_region_o
          clear l0 l1 h1 g1 hw0
          generalize wr.drew = wd at S2 ⊢
          go_wp2
          go_loopg [3, 5] d.size (fun g s3 s5 wr2 => ∃ (kk j : Nat) (dk : Array α), s3 = .int .i64 kk ∧ s5 = .int .i64 ((j : Int) + 1) ∧ kk < d.size ∧ i + 1 + (j + 1) ≤ d.size ∧ d.size - (i + 1 + (j + 1)) ≤ g ∧ Aside (SWK enc k w blk off dk wr2) ∧ Hid (CompInv d (i + 1 + (j + 1)) kk dk))
          case atStart => exact ⟨i + 1, 0, d, by go_num, rfl, by omega, by omega, by omega, S2, CompInv.start HK.out HN.out⟩
          case round =>
            clear S2
            obtain ⟨kk, j, dk, rfl, rfl, hkk, hle, hg2, S1, HI⟩ := hrel
            have hkm := HI.out.lt
            have hdk := HI.out.size
            have HDK := Lib.hid hdk
            clear hdk
            by_cases hl2 : i + 1 + (j + 1) < d.size
            · have hk0 : (0 : Int) ≤ (kk : Int) := Int.natCast_nonneg _
              have hk1 : (kk : Int) < (d.size : Int) := by omega
              have hq0 : (0 : Int) ≤ (j : Int) := Int.natCast_nonneg _
              have hq1 : (j : Int) < ((d.size - (i + 1) : Nat) : Int) := by omega
              have hp0 : (0 : Int) ≤ (j : Int) + 1 := by omega
              have hp1 : (j : Int) + 1 < ((d.size - (i + 1) : Nat) : Int) := by omega
              have hv0 : IntKind.i64.wrap (j : Int) = (j : Int) := by rw [IntKind.wrap_i64]; omega
              have hv1 : ((j : Int) + 1).toNat = j + 1 := by omega
              have m1 := S1.out.ld1 R HDK.out P (i + 1 + (j + 1)) (by rw [HDK.out]; exact hl2)
              have m0 := S1.out.ld1 R HDK.out P (i + 1 + j) (by rw [HDK.out]; omega)
              have S2 : Aside (SWK enc k w blk off dk wr.drew) := S1.out.drew
              have m2 := S2.out.load R HDK.out P (i + 1 + (j + 1)) (by rw [HDK.out]; exact hl2)
              rw [HI.out.high _ (by omega), show off + (i + 1 + (j + 1)) * k = off + (i + 1) * k + (j + 1) * k by rw [Nat.add_mul]; omega] at m1 m2
              rw [HI.out.high _ (by omega), show off + (i + 1 + j) * k = off + (i + 1) * k + j * k by rw [Nat.add_mul (i + 1) j]; omega] at m0
              generalize hU : d[i + 1 + (j + 1)]! = u at m1 m2
              generalize hV : d[i + 1 + j]! = v at m0
              have HU := Lib.hid hU
              have HVV := Lib.hid hV
              clear hU hV S1
              have n1 := HNE.out u v
              have g1 := fun op a b w => hgd op a b u v w
              by_cases huv : u = v
              · have hdd : (!decide (u = v)) = false := by simp [huv]
                rw [hdd] at n1
                clear hdd
                have HN2 : Hid (keeps d (i + 1 + (j + 1)) = false) := keeps_neg (by omega) (by rw [HU.out]; show u = d[i + 1 + j]!; rw [HVV.out]; exact huv)
                clear m2 huv
                go_wp2_with fail
                go_region_o
                clear m0 m1 n1 g1 hv0
                generalize wr.drew = wd at S2 ⊢
                go_wp2
                go_roundg (d.size - (i + 1 + (j + 1 + 1)))
                case measure => omega
                case rel => exact ⟨kk, j + 1, dk, rfl, by go_num, hkk, by omega, Nat.le_refl _, S2, HI.out.skip HN2.out⟩
              · have hdd : (!decide (u = v)) = true := by simp [huv]
                rw [hdd] at n1
                clear hdd
                have HN2 : Hid (keeps d (i + 1 + (j + 1)) = true) := keeps_pos (by rw [HU.out]; show u ≠ d[i + 1 + j]!; rw [HVV.out]; exact huv)
                have st := SWK.st0 S2.out R HDK.out P kk (by rw [HDK.out]; exact hkk) u
                have S3 : Aside (SWK enc k w blk off (dk.setIfInBounds kk u) (wr.drew.setCells blk (off + kk * k) (enc u))) := SWK.put S2.out R kk (by rw [HDK.out]; exact hkk) u
                have nl : (enc u).length = k := R.hk u
                clear S2
                go_wp2_with fail
                go_region_o
                clear m0 m1 n1 g1 hv0
                generalize wr.drew = wd at S3 m2 st ⊢
                generalize enc u = cu at S3 m2 st nl
                go_wp2
                clear m2 st
                generalize wd.setCells blk (off + kk * k) cu = we at S3 ⊢
                go_roundg (d.size - (i + 1 + (j + 1 + 1)))
                case measure => omega
                case rel => exact ⟨kk + 1, j + 1, _, by go_num, by go_num, by omega, by omega, Nat.le_refl _, S3, by have := HI.out.keep hl2 HN2.out; rw [HU.out] at this; exact this⟩
            · have hend : i + 1 + (j + 1) = d.size := by omega
              have HEND := Lib.hid hend
              have hge2 : ¬ (j : Int) + 1 < ((d.size - (i + 1) : Nat) : Int) := by omega
              clear hend
              have hH := S1.out.holds R.hblk R.hH HDK.out
              have hcl : ∀ ty, (Builtin.clear_ #[22] ty #[.slice (some ⟨blk, off + kk * k, none⟩) (d.size - kk) (cap - kk)]).run P wr = .ok (.tuple #[]) (wr.setCells blk (off + kk * k) (Builtin.zeroCells zc (d.size - kk)).toList) := by
                intro ty
                have hin : ∀ q, q < (d.size - kk) * zc.size → kk * k + q < (flatK enc k dk).size := by
                  intro q hq
                  rw [size_flatK, HDK.out]
                  rw [hzc] at hq
                  have : kk * k + (d.size - kk) * k = d.size * k := by rw [← Nat.add_mul]; congr 1; omega
                  omega
                refine run_clear_k wr _ _ ty zc tS HV.out H1.out (by omega) blk (off + kk * k) _ _ (by omega) (fun q hq => ?_) (fun q hq => ?_)
                · rw [Nat.add_assoc, (hH _ (hin q hq)).1]; rfl
                · rw [Nat.add_assoc]; exact (hH _ (hin q hq)).2
              clear hH
              have HP : Hid (CptPost enc blk off cap (compactUpTo d d.size) w (.returned (.slice (some ⟨blk, off, none⟩) kk cap)) (wr.setCells blk (off + kk * k) (Builtin.zeroCells zc (d.size - kk)).toList)) := by
                have hI := HI.out
                rw [HEND.out] at hI
                have hl := hI.len
                have := cpt_post R k0 HDK.out S1.out (compactUpTo d d.size) (by rw [hl, HDK.out]; omega) (fun q hq => hI.low q (by omega)) hcap HCM.out (off + kk * k) (by rw [hl]; exact Nat.le_refl _) (Builtin.zeroCells zc (d.size - kk)).toList
                rw [hl] at this
                exact this
              clear S1 HI
              go_wp2
              go_ret
              exact HP.out
        · have hdd : decide (x = y) = false := decide_eq_false hdup
          rw [hdd] at h1
          clear hdd
          have g1 := fun op a b w => hgd op a b x y w
          have HN : Hid (keeps d (i + 1) = true) := keeps_pos (by rw [HX.out]; show x ≠ d[i]!; rw [HY.out]; exact hdup)
          have S2 : Aside (SWK enc k w blk off d wr.drew) := S1.out.drew
          clear S1
          go_wp2_with fail
          go_region_o
          clear l0 l1 h1 g1 hw0
          generalize wr.drew = wd at S2 ⊢
          go_wp2
          go_roundg (d.size - (i + 1))
          case measure => omega
          case rel => exact ⟨i + 1, by omega, Nat.le_refl _, by go_num, S2, fun j hj => by
            by_cases e : j = i + 1
            · subst e; exact HN.out
            · exact HK.out j (by omega)⟩
      · have hge : ¬ (i : Int) + 1 < (d.size : Int) := by omega
        have hds : i + 1 = d.size := by omega
        have HDS := Lib.hid hds
        clear hds
        go_wp2
        go_ret
        exact HS.out _ S1.out (by rw [← HDS.out]; exact HK.out)
end St
end Go.Proofs.YtacchooggifnhaaDoor
namespace Go.Proofs.YtacchooggifnhaaDoor
open Go.RowKit Go.Sort Go.Shelf
namespace Ex
/-- sorted by key; in order -/
def SrtK (l : List Sbj) : Prop := l.Pairwise (fun a b => ¬ cmpS b.key a.key < 0)
def SrtB (l : List ByteArray) : Prop := l.Pairwise (fun a b => ¬ cmpS b a < 0)
instance : Inhabited Sbj := ⟨⟨⟨#[]⟩, 0, 0, 0, 0, 0, 0, false⟩⟩
def cmpK (a b : Sbj) : Int := cmpS a.key b.key
theorem cmpK_swo : SWO (ltOf cmpK) where
  irrefl x := by simp [ltOf, cmpK, cmpS_self]
  trans x y z h k := by simp only [ltOf, decide_eq_true_eq] at *; exact cmpS_ltt h k
  ntrans x y z h k := by
    simp only [ltOf, decide_eq_false_iff_not, Int.not_lt] at *
    unfold cmpK at *
    have h1 := cmpS_anti x.key y.key; have h2 := cmpS_anti y.key z.key; have h3 := cmpS_anti x.key z.key
    have := @cmpS_trans z.key y.key x.key (by omega) (by omega)
    omega
set_option maxHeartbeats 1000000 in
theorem key_cmp (x y : Sbj) (W : World) : Calls Tryd.prog 30 #[.agg (sbC x), .agg (sbC y)] W fun e w' => e = .returned (.int .i64 (cmpK x y)) ∧ ∃ q os', w' = grow (W.drewN q) os' := by
  go_enter Tryd.func30, Tryd.ntmps30
  go_wp2_with (go_at_call 31; refine (strings_Compare _ _ _).mono ?_; rintro e w' ⟨rfl, rfl⟩)
  go_ret
  exact ⟨rfl, 0, _, by rw [alloc_eq_grow, alloc_eq_grow, grow_grow]; rfl⟩
theorem key_lays (blk off size : Nat) (w : World) : CmpLays Tryd.prog 30 #[] sbL 8 cmpK blk off size w := fun _ _ _ _ x y => key_cmp x y _
theorem flatS_get (U : List Sbj) (t : Nat) (ht : t < U.length * 8) : (U.flatMap sbL)[t]? = some (flatK sbL 8 U.toArray)[t]! := by
  rw [get_flatK _ _ _ _ (by simpa using ht)]
  have h1 : t / 8 < U.length := by omega
  have h2 : U[t / 8]? = some U.toArray[t / 8]! := by rw [getElem!_pos U.toArray _ (by simpa using h1)]; simp [h1]
  have h3 : t % 8 < (sbL U.toArray[t / 8]!).length := by rw [sbL_len]; omega
  have := flat_get sbL_len U (t / 8) _ h2 (t % 8) _ (List.getElem?_eq_getElem h3)
  rw [show t / 8 * 8 + t % 8 = t by omega] at this
  rw [this, getElem!_pos (sbL U.toArray[t / 8]!) _ h3]
theorem swk_grown {enc : Sbj → List Value} {k : Nat} {w0 W : World} {blk off : Nat} {dk : Array Sbj} (h : SWK enc k w0 blk off dk W) (_hblk : blk < w0.heap.size) : w0.grownBy W (some blk) := by
  obtain ⟨n, os, rfl⟩ := h
  refine ⟨rfl, rfl, rfl, ?_, fun j hj hne => ?_⟩
  · unfold sortWorldK; rw [_root_.Go.Sort.size_grow, size_putRowK]; exact Nat.le_add_right _ _
  · unfold sortWorldK
    rw [_root_.Go.Sort.heap_grow_old _ _ (by rw [size_putRowK]; show j < w0.heap.size; omega)]
    simp only [putRowK, putRow, mapBlock, Array.getElem?_modify]
    rw [if_neg (fun e => hne (by rw [e]))]; rfl
theorem own_swk {w W : World} {base g cap : Nat} {e : TypeId} {cur : Array Value} {d : Array Sbj} (hS : SWK sbL 8 w g 0 d W) (hb : base ≤ g) (hg : w.heap[g]? = some (.cells cur e (0, 0))) (hn : d.size ≤ cap) (hm : cap ≤ maxLen) (hs : cur.size = cap * 8) (H : HoldsK sbL 8 W g 0 d) :
    W.ownsRow base e 8 (.slice (some ⟨g, 0, none⟩) d.size cap) d.size (d.toList.flatMap sbL) := by
  have hblk : g < w.heap.size := (Array.getElem?_eq_some_iff.1 hg).1
  obtain ⟨n, os, rfl⟩ := hS
  obtain ⟨c2, h2, hsz⟩ : ∃ c2, (sortWorldK sbL 8 w g 0 n d os).heap[g]? = some (.cells c2 e (0, 0)) ∧ c2.size = cur.size := by
    refine ⟨putCells id 0 (flatK sbL 8 d) cur, ?_, by simp [putCells]⟩
    unfold sortWorldK
    rw [_root_.Go.Sort.heap_grow_old _ _ (by rw [size_putRowK]; exact hblk)]
    simp only [putRowK, putRow, mapBlock, Array.getElem?_modify]
    rw [if_pos trivial]
    show Option.map _ (w.heap[g]?) = _
    rw [hg]; rfl
  refine ⟨by rw [flat_length (f := sbL) (sz := 8) (fun _ => rfl)]; simp, .inr ⟨g, cap, c2, rfl, hb, h2, hn, hm, by rw [hsz, hs], ?_⟩⟩
  apply List.ext_getElem?
  intro j
  by_cases hj : j < d.size * 8
  · rw [List.getElem?_take_of_lt hj, flatS_get d.toList j (by simpa using hj)]
    have h4 := (H j (by rw [size_flatK]; exact hj)).1
    simp only [World.cell?, h2, Nat.zero_add] at h4
    simpa using h4
  · rw [List.getElem?_take_eq_none (by omega), List.getElem?_eq_none]
    rw [flat_length (f := sbL) (sz := 8) (fun _ => rfl)]; simpa using hj
theorem sortSbj_at (base : Nat) (S : List Sbj) (hl : S.length ≤ 20000) (v : Value) (w : World) (hB : base ≤ w.heap.size) (hown : w.ownsRow base 36 8 v S.length (S.flatMap sbL)) :
    Calls Tryd.prog 29 #[v, .func (.func 30) #[] #[]] w fun e w' => e = .returned (.tuple #[]) ∧ ∃ S' : List Sbj, S'.Perm S ∧ SrtK S' ∧ w'.ownsRow base 36 8 v S.length (S'.flatMap sbL) ∧ w.grownBy w' v.ownBlock := by
  obtain ⟨h1, ⟨rfl, h2⟩ | ⟨g, cap, cur, rfl, hb, hg, hn, hm, hs, ht⟩⟩ := hown
  · obtain rfl := List.length_eq_zero_iff.1 h2
    refine (AnyF.slices_SortFunc_none Tryd.sortSbj none 0 _ w).mono ?_
    rintro e w' ⟨rfl, rfl⟩
    exact ⟨rfl, [], List.Perm.refl _, List.Pairwise.nil, World.ownsRow_nil _ _ _ _, World.grownBy.refl _ _⟩
  · have hH : HoldsK sbL 8 w g 0 S.toArray := by
      intro j hj
      rw [size_flatK] at hj
      have hj' : j < S.length * 8 := by simpa using hj
      have h3 := flatS_get S j hj'
      rw [← ht, List.getElem?_take_of_lt hj'] at h3
      constructor
      · simp only [World.cell?, hg, Nat.zero_add]
        simpa using h3
      · simp [World.frozen?, hg]
    have hblk : g < w.heap.size := (Array.getElem?_eq_some_iff.1 hg).1
    have hc := AnyQ.slices_SortFunc Tryd.sortSbj 8 Tryd.isAgg36 Tryd.sizeOf36 sbL sbL_len sbL_one cmpK cmpK_swo 30 #[] g 0 cap S.toArray w (enters_of Tryd.func30 (by kernel_rfl) rfl) (key_lays g 0 _ w) hH hblk (by simp; omega)
    rw [show S.toArray.size = S.length by simp] at hc
    refine hc.mono ?_
    rintro e w' ⟨rfl, d', n, os, hp, hso, hw⟩
    have hds : d'.size = S.length := by have := hp.1; simpa using this
    have hS : SWK sbL 8 w g 0 d' w' := ⟨n, os, hw⟩
    have hH2 : HoldsK sbL 8 w' g 0 d' := by rw [hw]; exact holdsK_sortWorldK sbL 8 w g 0 n S.toArray d' os hblk hH (by simpa using hds)
    refine ⟨rfl, d'.toList, ?_, ?_, ?_, swk_grown hS hblk⟩
    · obtain ⟨h5, _, hq⟩ := hp
      have e1 : (d'.extract 0 S.length).toList = d'.toList := by rw [← hds]; simp
      have e2 : (S.toArray.extract 0 S.length).toList = S := by simp
      rw [e1, e2] at hq
      exact hq
    · unfold SrtK
      rw [List.pairwise_iff_getElem]
      intro i j hi hj hij
      have hi' : i < d'.size := by simpa using hi
      have hj' : j < d'.size := by simpa using hj
      have := hso i j (by omega) hij (by omega)
      simp only [ltOf, decide_eq_false_iff_not] at this
      rw [getElem!_pos d' i hi', getElem!_pos d' j hj'] at this
      simpa [cmpK] using this
    · have := own_swk hS hb hg (by rw [hds]; exact hn) hm hs hH2
      rw [hds] at this; exact this
theorem bytes_less : ∀ (b a : List UInt8), Op.bytesLess b a = true → b < a
  | [], [], h => by simp [Op.bytesLess] at h
  | [], x :: a, _ => List.nil_lt_cons x a
  | y :: b, [], h => by simp [Op.bytesLess] at h
  | y :: b, x :: a, h => by
    rw [List.cons_lt_cons_iff]
    simp only [Op.bytesLess, Bool.or_eq_true, Bool.and_eq_true, decide_eq_true_eq, beq_iff_eq] at h
    rcases h with h | ⟨h1, h2⟩
    · exact .inl h
    · exact .inr ⟨h1, bytes_less b a h2⟩
theorem bytes_lt (a b : List UInt8) (h : Lib.compareBytes b a < 0) : ¬ a ≤ b := fun k => k (bytes_less b a (by rw [less_iff]; exact decide_eq_true h))
theorem sortStr_at (base : Nat) (S : List ByteArray) (hl : S.length ≤ 20000) (v : Value) (w : World) (hB : base ≤ w.heap.size) (hown : w.ownsRow base 9 1 v S.length (S.map Value.string)) :
    Calls Tryd.prog 32 #[v] w fun e w' => e = .returned (.tuple #[]) ∧ ∃ S' : List ByteArray, S'.Perm S ∧ SrtB S' ∧ w'.ownsRow base 9 1 v S.length (S'.map Value.string) ∧ w.grownBy w' v.ownBlock := by
  obtain ⟨h1, ⟨rfl, h2⟩ | ⟨g, cap, cur, rfl, hb, hg, hn, hm, hs, ht⟩⟩ := hown
  · obtain rfl := List.length_eq_zero_iff.1 h2
    refine (Tryd.slices_Sort_string_none none 0 w).mono ?_
    rintro e w' ⟨rfl, rfl⟩
    exact ⟨rfl, [], List.Perm.refl _, List.Pairwise.nil, World.ownsRow_nil _ _ _ _, World.grownBy.refl _ _⟩
  · obtain ⟨ss, hss⟩ : ∃ z, S.map (·.data.toList) = z := ⟨_, rfl⟩
    have hlen : ss.length = S.length := by rw [← hss, List.length_map]
    have hen : ss.map encStr = S.map Value.string := by
      rw [← hss, List.map_map]
      exact List.map_congr_left fun x _ => by obtain ⟨⟨l⟩⟩ := x; rfl
    have hc := Tryd.slices_Sort_string g 0 cap ss w (holds_of_block hg (by rw [hen, hlen]; simpa using ht)) (Array.getElem?_eq_some_iff.1 hg).1 (by omega)
    rw [hlen] at hc
    refine hc.mono ?_
    rintro e w' ⟨rfl, n, os, rfl⟩
    obtain ⟨ts, hts⟩ : ∃ z, (ss.mergeSort fun x y => decide (x ≤ y)) = z := ⟨_, rfl⟩
    have hperm : ts.Perm ss := by rw [← hts]; exact List.mergeSort_perm _ _
    rw [hts]
    have hown2 := ownsRow_sorted (ts := ts) (n := n) (os := os) hperm.length_eq hb hg (by rw [hlen]; exact hn) hm (by simpa using hs)
    refine ⟨rfl, ts.map (fun l => (⟨l.toArray⟩ : ByteArray)), ?_, ?_, ?_, grownBy_sorted _⟩
    · have := hperm.map (fun l => (⟨l.toArray⟩ : ByteArray))
      rw [← hss, List.map_map] at this
      have e9 : S.map ((fun l => (⟨l.toArray⟩ : ByteArray)) ∘ fun x => x.data.toList) = S := by
        conv => rhs; rw [← List.map_id S]
        exact List.map_congr_left fun x _ => by obtain ⟨⟨l⟩⟩ := x; rfl
      rw [e9] at this; exact this
    · unfold SrtB
      rw [List.pairwise_map]
      have hsrt : ts.Pairwise (fun a b => a ≤ b) := by
        rw [← hts]
        have := List.pairwise_mergeSort (le := fun x y : List UInt8 => decide (x ≤ y)) (fun a b c => by simp only [decide_eq_true_eq]; exact List.le_trans) (fun a b => by simp only [Bool.or_eq_true, decide_eq_true_eq]; exact List.le_total a b) ss
        exact this.imp (fun h => by simpa using h)
      exact hsrt.imp (fun {a b} h k => bytes_lt a b k h)
    · have h9 := hown2
      rw [hlen] at h9
      have e8 : ts.map encStr = (ts.map (fun l => (⟨l.toArray⟩ : ByteArray))).map Value.string := by rw [List.map_map]; rfl
      rw [e8] at h9; exact h9
end Ex
end Go.Proofs.YtacchooggifnhaaDoor
