/- slices.Compact at structs of k cells. slices.Grow and slices.Concat at []api.Event. -/
import Derived.Test.YtbgbfjfboaajbaaGreatDoorEm06
import Derived.Test.YtbgbfjfboaajbaaGreatDoorEm00
import Derived.Shelf.RegionOpenPlain
import Derived.Lib.SlicesCompact
import Derived.Test.YtbgbfjfboaajbaaGreatDoorProg
import Derived.Test.YtbgbfjfboaajbaaGreatDoorEm03
namespace Go.Proofs.YtbgbfjfboaajbaaGreatDoor
namespace St
open Go.Shelf Go.RowKit Go.Lib Go.Sort
variable {P : Program} {α : Type} [Inhabited α]
theorem setMany_put (enc : α → List Value) (k : Nat) (hk : ∀ x, (enc x).length = k) (d : Array α) (i : Nat) (hi : i < d.size) (y : α) :
    setMany (flatK enc k d) (i * k) (enc y) = flatK enc k (d.setIfInBounds i y) := by
  refine ext_get! (by simp) fun t ht => ?_
  have ht' : t < d.size * k := by simpa using ht
  have k0 : 0 < k := by
    rcases Nat.eq_zero_or_pos k with h | h
    · subst h; simp at ht'
    · exact h
  rw [get_setMany _ _ _ t (by simpa using ht'), get_flatK _ _ _ t ht', get_flatK _ _ _ t (by simpa using ht'), hk]
  have m : ∀ q, t / k = q → t - q * k = t % k := fun q h => by subst h; rw [Nat.mod_eq_sub_div_mul]
  by_cases a : t / k = i
  · rw [if_pos ((blk_iff k i t k0).2 a), m i a, a, getElem!_set_same d i y hi]
  · rw [if_neg (fun h => a ((blk_iff k i t k0).1 h)), getElem!_set_other d i (t / k) y a]
variable {enc : α → List Value} {k : Nat} {w0 W : World} {blk off : Nat} {dk d0 : Array α}
theorem SWK.put (h : SWK enc k w0 blk off dk W) (R : RowK enc k w0 blk off d0) (i : Nat) (hi : i < dk.size) (y : α) :
    SWK enc k w0 blk off (dk.setIfInBounds i y) (W.setCells blk (off + i * k) (enc y)) := by
  obtain ⟨n, os, rfl⟩ := h
  refine ⟨n, os, ?_⟩
  unfold sortWorldK
  rw [setCells_grow os blk _ _ _ (by show blk < (putRowK enc k _ blk off dk).heap.size; rw [size_putRowK]; exact R.hblk)]
  congr 1
  unfold putRowK
  rw [setCells_putRow _ _ _ _ _ _ (by rw [R.hk, size_flatK]; exact rowK_bnd dk k i hi), setMany_put enc k R.hk dk i hi]
theorem SWK.st0 (h : SWK enc k w0 blk off dk W) (R : RowK enc k w0 blk off d0) (hs : dk.size = d0.size) (P : Program) (i : Nat) (hi : i < dk.size) (y : α) :
    Sem.run P (storeCells ⟨blk, off + i * k, none⟩ (enc y) 0) W = .ok () (W.setCells blk (off + i * k) (enc y)) :=
  stores_of_holds P (h.holds R.hblk R.hH hs) (i * k) _ (by rw [R.hk, size_flatK]; exact rowK_bnd dk k i hi) (R.h1 _)
/-- clear(s) at structs: the cells hold zero values; nothing else turns. -/
theorem run_clear_k (w : World) (t e ty : TypeId) (zc : Array Value) (ht : P.underlying t = some (.slice e)) (hv : ∀ w, (zeroValue e).run P w = .ok (.agg zc) w) (h1 : ∀ v ∈ zc.toList, v.oneCell' = true) (hz : 0 < zc.size) (b o n c : Nat) (hn : 0 < n)
    (hc : ∀ j, j < n * zc.size → (w.cell? ⟨b, o + j, none⟩).isSome = true) (hf : ∀ j, j < n * zc.size → w.frozen? ⟨b, o + j, none⟩ = false) :
    (Builtin.clear_ #[t] ty #[.slice (some ⟨b, o, none⟩) n c]).run P w = .ok (.tuple #[]) (w.setCells b o (Builtin.zeroCells zc n).toList) := by
  have hl : (Builtin.zeroCells zc n).toList.length = n * zc.size := by simp [size_zeroCells]
  have hst := run_storeCells_cells (P := P) b o (Builtin.zeroCells zc n).toList 0 w (by intro j hj; rw [hl] at hj; rw [Nat.add_zero]; exact hc j hj) (by intro j hj; rw [hl] at hj; rw [Nat.add_zero]; exact hf j hj)
    (by
      intro v hv'
      simp only [Builtin.zeroCells, Array.toList_map, List.mem_map] at hv'
      obtain ⟨i, _, rfl⟩ := hv'
      have hi : i % zc.size < zc.size := Nat.mod_lt _ hz
      refine h1 _ ?_
      first | (rw [getElem!_pos zc _ hi]; exact Array.getElem_mem_toList hi) | (rw [Array.getD_eq_getD_getElem?, Array.getElem?_eq_getElem hi]; exact Array.getElem_mem_toList hi))
  simp only [Nat.add_zero] at hst
  obtain ⟨m, rfl⟩ : ∃ m, n = m + 1 := ⟨n - 1, by omega⟩
  simp [Builtin.clear_, run_underlying ht, hv, Value.cells, hst]
theorem below_setCells {B b : Nat} (hB : B ≤ b) : ∀ (vs : List Value) (o : Nat) (w : World), Below B w (w.setCells b o vs)
  | [], _, _ => Below.refl _ _
  | v :: r, o, w => ((Below.refl B w).setCell hB v).trans (below_setCells hB r (o + 1) (w.setCell ⟨b, o, none⟩ v))
theorem cell_setCells_lt {b j : Nat} : ∀ (vs : List Value) (o : Nat) (w : World), j < o → (w.setCells b o vs).cell? ⟨b, j, none⟩ = w.cell? ⟨b, j, none⟩
  | [], _, _, _ => rfl
  | v :: r, o, w, h => by
    rw [World.setCells, cell_setCells_lt r (o + 1) _ (by omega), World.cell?_setCell_other _ _ _ _ (by simp; first | done | omega)]
theorem SWK.below {B : Nat} (h : SWK enc k w0 blk off dk W) (hB : B ≤ blk) (hblk : blk < w0.heap.size) : Below B w0 W := by
  obtain ⟨n, os, rfl⟩ := h
  refine ⟨rfl, rfl, rfl, ?_, fun j hj => ?_⟩
  · unfold sortWorldK; rw [_root_.Go.Sort.size_grow, size_putRowK]; exact Nat.le_add_right _ _
  · unfold sortWorldK
    rw [_root_.Go.Sort.heap_grow_old _ _ (by rw [size_putRowK]; show j < w0.heap.size; omega)]
    simp only [putRowK, putRow, mapBlock, Array.getElem?_modify]
    rw [if_neg (by omega)]; rfl
omit [Inhabited α] in
theorem flat_inv {f : α → List Value} (hk : ∀ x, (f x).length = k) (k0 : 0 < k) : ∀ (l : List α) (i : Nat) (v : Value), (l.flatMap f)[i]? = some v → ∃ y, l[i / k]? = some y ∧ (f y)[i % k]? = some v
  | [], _, _, h => by simp at h
  | x :: l, i, v, h => by
    rw [List.flatMap_cons] at h
    by_cases hi : i < k
    · rw [List.getElem?_append_left (by rw [hk]; exact hi)] at h
      rw [Nat.div_eq_of_lt hi, Nat.mod_eq_of_lt hi]
      exact ⟨x, rfl, h⟩
    · rw [List.getElem?_append_right (by rw [hk]; omega), hk] at h
      obtain ⟨y, h1, h2⟩ := flat_inv hk k0 l (i - k) v h
      have e1 : i / k = (i - k) / k + 1 := by rw [Nat.div_eq_sub_div k0 (by omega)]
      have e2 : i % k = (i - k) % k := Nat.mod_eq_sub_mod (by omega)
      exact ⟨y, by rw [e1]; exact h1, by rw [e2]; exact h2⟩
omit [Inhabited α] in
theorem sl_of_cells {cap : Nat} (hk : ∀ x, (enc x).length = k) (k0 : 0 < k) (l : List α) (hcap : l.length ≤ cap) (hm : cap ≤ maxLen)
    (h : ∀ j y, l[j]? = some y → ∀ q v, (enc y)[q]? = some v → W.cell? ⟨blk, off + j * k + q, none⟩ = some v) : Sl W (.slice (some ⟨blk, off, none⟩) l.length cap) l.length (l.flatMap enc) := by
  refine ⟨_, _, rfl, hcap, hm, (fun h => by cases h), fun i x hx => ⟨_, _, rfl, ?_⟩⟩
  obtain ⟨y, h1, h2⟩ := flat_inv hk k0 l i x hx
  have := h _ _ h1 _ _ h2
  rw [show off + i / k * k + i % k = off + i by rw [Nat.add_assoc, Nat.mul_comm, Nat.div_add_mod]] at this
  exact this
/-- What Compact leaves. -/
def CptPost (enc : α → List Value) (blk off cap : Nat) (l : List α) (w : World) (e : Ending) (w' : World) : Prop :=
  e = .returned (.slice (some ⟨blk, off, none⟩) l.length cap) ∧ Sl w' (.slice (some ⟨blk, off, none⟩) l.length cap) l.length (l.flatMap enc) ∧ ∀ B, B ≤ blk → Below B w w'
theorem cpt_post {cap : Nat} {w : World} {d : Array α} (R : RowK enc k w blk off d) (k0 : 0 < k) (hs : dk.size = d.size) (S : SWK enc k w blk off dk W) (l : List α) (hl : l.length ≤ dk.size) (hlow : ∀ j, j < l.length → l[j]? = some dk[j]!) (hcap : d.size ≤ cap) (hm : cap ≤ maxLen)
    (o : Nat) (ho : off + l.length * k ≤ o) (vs : List Value) : CptPost enc blk off cap l w (.returned (.slice (some ⟨blk, off, none⟩) l.length cap)) (W.setCells blk o vs) := by
  refine ⟨rfl, sl_of_cells R.hk k0 l (by omega) hm fun j y hy q v hv => ?_, fun B hB => (SWK.below S hB R.hblk).trans (below_setCells hB _ _ _)⟩
  have hj : j < l.length := (List.getElem?_eq_some_iff.1 hy).1
  have hq : q < k := by have := (List.getElem?_eq_some_iff.1 hv).1; rwa [R.hk] at this
  have hb : (j + 1) * k ≤ l.length * k := Nat.mul_le_mul_right k hj
  rw [Nat.add_mul, Nat.one_mul] at hb
  rw [cell_setCells_lt _ _ _ (by omega), ((S.holds R.hblk R.hH hs).cell (by omega) hq).1]
  rw [hlow j hj] at hy
  obtain rfl := Option.some.inj hy
  rw [getElem!_pos (enc dk[j]!) q (by rw [R.hk]; exact hq)]
  rw [List.getElem?_eq_getElem (by rw [R.hk]; exact hq)] at hv
  exact hv
variable [DecidableEq α]
set_option maxHeartbeats 8000000 in
set_option maxRecDepth 1000000 in
theorem compact_at (k : Nat) (L : Lay P k) (FG : P.funcs[44]? = some Tryz.f44) (enc : α → List Value)
    (heq : ∀ (x y : α) (w : World), Sem.run P (binOp .eql 31 (.agg (enc x).toArray) (.agg (enc y).toArray)) w = .ok (.bool (decide (x = y))) w)
    (hne : ∀ (x y : α) (w : World), Sem.run P (binOp .neq 31 (.agg (enc x).toArray) (.agg (enc y).toArray)) w = .ok (.bool (!decide (x = y))) w)
    (hgd : ∀ (op : BinOp) (a b : Operand) (x y : α) (w : World), Sem.run P (eqGuard op 31 a b (.agg (enc x).toArray) (.agg (enc y).toArray)) w = .ok () w)
    (zc : Array Value) (hzc : zc.size = k) (h1 : ∀ v ∈ zc.toList, v.oneCell' = true) (k0 : 0 < k) (vE : ∀ w, (zeroValue 31).run P w = .ok (.agg zc) w)
    (blk off cap : Nat) (d : Array α) (w : World) (R : RowK enc k w blk off d) (hsz : d.size < 4611686018427387904) (hcap : d.size ≤ cap) (hcm : cap ≤ maxLen) :
    Calls P 44 #[.slice (some ⟨blk, off, none⟩) d.size cap] w (CptPost enc blk off cap (compactUpTo d d.size) w) := by
  have mixed := L.mixed; have t0 := L.t0; have a0 := L.a0; have z0 := L.z0; have v0 := L.v0; have t3 := L.t3; have a3 := L.a3; have z3 := L.z3; have v3 := L.v3; have t4 := L.t4; have a4 := L.a4; have z4 := L.z4; have v4 := L.v4; have tS := L.tS; have aS := L.aS; have zS := L.zS; have vS := L.vS; have aE := L.aE; have zE := L.zE
  have HS : Aside (∀ W, SWK enc k w blk off d W → (∀ j, j < d.size → keeps d j = true) → CptPost enc blk off cap (compactUpTo d d.size) w (.returned (.slice (some ⟨blk, off, none⟩) d.size cap)) W) := by
    intro W hW hall
    have e : compactUpTo d d.size = d.toList := by rw [compactUpTo_all d _ hall, range_map_get]
    rw [e]
    have := cpt_post R k0 rfl hW d.toList (by simp) (fun j hj => by have hj' : j < d.size := by simpa using hj
                                                                    rw [getElem!_pos d j hj']; simp [hj']) hcap hcm (off + d.toList.length * k) (Nat.le_refl _) []
    simpa [World.setCells] using this
  have HCM := Lib.hid hcm
  clear hcm
  have S0 : Aside (SWK enc k w blk off d w) := SWK.start R.hH
  have HE : Aside _ := heq
  have HNE : Aside _ := hne
  have HV : Aside _ := vE
  have H1 : Aside _ := h1
  clear heq hne vE h1
  by_cases h2 : d.size < 2
  · go_enter FG, Tryz.ntmps44
    go_wp2
    go_ret
    exact HS.out _ S0.out (fun j hj => keeps_lt_one d j (by omega))
  · go_enter FG, Tryz.ntmps44
    go_wp2
    go_loopg [3] d.size (fun g s3 wr => ∃ i : Nat, i + 1 ≤ d.size ∧ d.size - i ≤ g ∧ s3 = .int .i64 ((i : Int) + 1) ∧ Aside (SWK enc k w blk off d wr) ∧ Hid (∀ j, j < i + 1 → keeps d j = true))
    case atStart => exact ⟨0, by omega, by omega, rfl, S0, keeps_lt_one d⟩
    case round =>
      clear S0
      obtain ⟨i, hi, hg, rfl, S1, HK⟩ := hrel
      by_cases hlt : i + 1 < d.size
      · have hi0 : (0 : Int) ≤ (i : Int) := Int.natCast_nonneg _
        have hi1 : (i : Int) < (d.size : Int) := by omega
        have hj0 : (0 : Int) ≤ (i : Int) + 1 := by omega
        have hj1 : (i : Int) + 1 < (d.size : Int) := by omega
        have hw0 : IntKind.i64.wrap (i : Int) = (i : Int) := by rw [IntKind.wrap_i64]; omega
        have ht1 : ((i : Int) + 1).toNat = i + 1 := by omega
        have l1 := S1.out.ld1 R rfl P (i + 1) hlt
        have l0 := S1.out.ld1 R rfl P i (by omega)
        have hx : Hid (∃ x y, d[i + 1]! = x ∧ d[i]! = y) := ⟨_, _, rfl, rfl⟩
        generalize hX : d[i + 1]! = x at l1
        generalize hY : d[i]! = y at l0
        have HX := Lib.hid hX
        have HY := Lib.hid hY
        clear hX hY hx
        have h1 := HE.out x y
        by_cases hdup : x = y
        · subst hdup
          have hdd : decide (x = x) = true := by simp
          rw [hdd] at h1
          clear hdd
          have g1 := fun op a b w => hgd op a b x x w
          have HN : Hid (keeps d (i + 1) = false) := keeps_neg (by omega) (by rw [HX.out]; exact HY.out.symm)
          have S2 : Aside (SWK enc k w blk off d wr.drew) := S1.out.drew
          clear S1
          go_wp2_with fail
          go_region_o
          clear l0 l1 h1 g1 hw0
          generalize wr.drew = wd at S2 ⊢
          go_wp2
          go_loopg [3, 5] d.size (fun g s3 s5 wr2 => ∃ (kk j : Nat) (dk : Array α), s3 = .int .i64 kk ∧ s5 = .int .i64 ((j : Int) + 1) ∧ kk < d.size ∧ i + 1 + (j + 1) ≤ d.size ∧ d.size - (i + 1 + (j + 1)) ≤ g ∧ Aside (SWK enc k w blk off dk wr2) ∧ Hid (CompInv d (i + 1 + (j + 1)) kk dk))
          case atStart => exact ⟨i + 1, 0, d, by go_num, rfl, by omega, by omega, by omega, S2, CompInv.start HK.out HN.out⟩
          case round =>
            clear S2
            obtain ⟨kk, j, dk, rfl, rfl, hkk, hle, hg2, S1, HI⟩ := hrel
            have hkm := HI.out.lt
            have hdk := HI.out.size
            have HDK := Lib.hid hdk
            clear hdk
            by_cases hl2 : i + 1 + (j + 1) < d.size
            · have hk0 : (0 : Int) ≤ (kk : Int) := Int.natCast_nonneg _
              have hk1 : (kk : Int) < (d.size : Int) := by omega
              have hq0 : (0 : Int) ≤ (j : Int) := Int.natCast_nonneg _
              have hq1 : (j : Int) < ((d.size - (i + 1) : Nat) : Int) := by omega
              have hp0 : (0 : Int) ≤ (j : Int) + 1 := by omega
              have hp1 : (j : Int) + 1 < ((d.size - (i + 1) : Nat) : Int) := by omega
              have hv0 : IntKind.i64.wrap (j : Int) = (j : Int) := by rw [IntKind.wrap_i64]; omega
              have hv1 : ((j : Int) + 1).toNat = j + 1 := by omega
              have m1 := S1.out.ld1 R HDK.out P (i + 1 + (j + 1)) (by rw [HDK.out]; exact hl2)
              have m0 := S1.out.ld1 R HDK.out P (i + 1 + j) (by rw [HDK.out]; omega)
              have S2 : Aside (SWK enc k w blk off dk wr.drew) := S1.out.drew
              have m2 := S2.out.load R HDK.out P (i + 1 + (j + 1)) (by rw [HDK.out]; exact hl2)
              rw [HI.out.high _ (by omega), show off + (i + 1 + (j + 1)) * k = off + (i + 1) * k + (j + 1) * k by rw [Nat.add_mul]; omega] at m1 m2
              rw [HI.out.high _ (by omega), show off + (i + 1 + j) * k = off + (i + 1) * k + j * k by rw [Nat.add_mul (i + 1) j]; omega] at m0
              generalize hU : d[i + 1 + (j + 1)]! = u at m1 m2
              generalize hV : d[i + 1 + j]! = v at m0
              have HU := Lib.hid hU
              have HVV := Lib.hid hV
              clear hU hV S1
              have n1 := HNE.out u v
              have g1 := fun op a b w => hgd op a b u v w
              by_cases huv : u = v
              · have hdd : (!decide (u = v)) = false := by simp [huv]
                rw [hdd] at n1
                clear hdd
                have HN2 : Hid (keeps d (i + 1 + (j + 1)) = false) := keeps_neg (by omega) (by rw [HU.out]; show u = d[i + 1 + j]!; rw [HVV.out]; exact huv)
                clear m2 huv
                go_wp2_with fail
                go_region_o
                clear m0 m1 n1 g1 hv0
                generalize wr.drew = wd at S2 ⊢
                go_wp2
                go_roundg (d.size - (i + 1 + (j + 1 + 1)))
                case measure => omega
                case rel => exact ⟨kk, j + 1, dk, rfl, by go_num, hkk, by omega, Nat.le_refl _, S2, HI.out.skip HN2.out⟩
              · have hdd : (!decide (u = v)) = true := by simp [huv]
                rw [hdd] at n1
                clear hdd
                have HN2 : Hid (keeps d (i + 1 + (j + 1)) = true) := keeps_pos (by rw [HU.out]; show u ≠ d[i + 1 + j]!; rw [HVV.out]; exact huv)
                have st := SWK.st0 S2.out R HDK.out P kk (by rw [HDK.out]; exact hkk) u
                have S3 : Aside (SWK enc k w blk off (dk.setIfInBounds kk u) (wr.drew.setCells blk (off + kk * k) (enc u))) := SWK.put S2.out R kk (by rw [HDK.out]; exact hkk) u
                have nl : (enc u).length = k := R.hk u
                clear S2
                go_wp2_with fail
                go_region_o
                clear m0 m1 n1 g1 hv0
                generalize wr.drew = wd at S3 m2 st ⊢
                generalize enc u = cu at S3 m2 st nl
                go_wp2
                clear m2 st
                generalize wd.setCells blk (off + kk * k) cu = we at S3 ⊢
                go_roundg (d.size - (i + 1 + (j + 1 + 1)))
                case measure => omega
                case rel => exact ⟨kk + 1, j + 1, _, by go_num, by go_num, by omega, by omega, Nat.le_refl _, S3, by have := HI.out.keep hl2 HN2.out; rw [HU.out] at this; exact this⟩
            · have hend : i + 1 + (j + 1) = d.size := by omega
              have HEND := Lib.hid hend
              have hge2 : ¬ (j : Int) + 1 < ((d.size - (i + 1) : Nat) : Int) := by omega
              clear hend
              have hH := S1.out.holds R.hblk R.hH HDK.out
              have hcl : ∀ ty, (Builtin.clear_ #[22] ty #[.slice (some ⟨blk, off + kk * k, none⟩) (d.size - kk) (cap - kk)]).run P wr = .ok (.tuple #[]) (wr.setCells blk (off + kk * k) (Builtin.zeroCells zc (d.size - kk)).toList) := by
                intro ty
                have hin : ∀ q, q < (d.size - kk) * zc.size → kk * k + q < (flatK enc k dk).size := by
                  intro q hq
                  rw [size_flatK, HDK.out]
                  rw [hzc] at hq
                  have : kk * k + (d.size - kk) * k = d.size * k := by rw [← Nat.add_mul]; congr 1; omega
                  omega
                refine run_clear_k wr _ _ ty zc tS HV.out H1.out (by omega) blk (off + kk * k) _ _ (by omega) (fun q hq => ?_) (fun q hq => ?_)
                · rw [Nat.add_assoc, (hH _ (hin q hq)).1]; rfl
                · rw [Nat.add_assoc]; exact (hH _ (hin q hq)).2
              clear hH
              have HP : Hid (CptPost enc blk off cap (compactUpTo d d.size) w (.returned (.slice (some ⟨blk, off, none⟩) kk cap)) (wr.setCells blk (off + kk * k) (Builtin.zeroCells zc (d.size - kk)).toList)) := by
                have hI := HI.out
                rw [HEND.out] at hI
                have hl := hI.len
                have := cpt_post R k0 HDK.out S1.out (compactUpTo d d.size) (by rw [hl, HDK.out]; omega) (fun q hq => hI.low q (by omega)) hcap HCM.out (off + kk * k) (by rw [hl]; exact Nat.le_refl _) (Builtin.zeroCells zc (d.size - kk)).toList
                rw [hl] at this
                exact this
              clear S1 HI
              go_wp2
              go_ret
              exact HP.out
        · have hdd : decide (x = y) = false := decide_eq_false hdup
          rw [hdd] at h1
          clear hdd
          have g1 := fun op a b w => hgd op a b x y w
          have HN : Hid (keeps d (i + 1) = true) := keeps_pos (by rw [HX.out]; show x ≠ d[i]!; rw [HY.out]; exact hdup)
          have S2 : Aside (SWK enc k w blk off d wr.drew) := S1.out.drew
          clear S1
          go_wp2_with fail
          go_region_o
          clear l0 l1 h1 g1 hw0
          generalize wr.drew = wd at S2 ⊢
          go_wp2
          go_roundg (d.size - (i + 1))
          case measure => omega
          case rel => exact ⟨i + 1, by omega, Nat.le_refl _, by go_num, S2, fun j hj => by
            by_cases e : j = i + 1
            · subst e; exact HN.out
            · exact HK.out j (by omega)⟩
      · have hge : ¬ (i : Int) + 1 < (d.size : Int) := by omega
        have hds : i + 1 = d.size := by omega
        have HDS := Lib.hid hds
        clear hds
        go_wp2
        go_ret
        exact HS.out _ S1.out (by rw [← HDS.out]; exact HK.out)
end St
end Go.Proofs.YtbgbfjfboaajbaaGreatDoor
namespace Go.Proofs.YtbgbfjfboaajbaaGreatDoor
open Go.RowKit
namespace CCCatE
theorem e_bytes : Tryz.t31.bytes = 88 := by kernel_rfl
theorem e_info : (Tryz.prog.info? 31).map (fun i => (i.zero, i.size, i.bytes)) = some (some (.agg #[.string { data := #[] }, .int .i64 0, .int .i64 0, .int .i64 0, .string { data := #[] }, .string { data := #[] }, .int .i64 0, .int .i64 0]), 8, 88) := by kernel_rfl
def cells (l : List Ev) : List Value := l.flatMap evL
theorem cells_append (l m : List Ev) : cells (l ++ m) = cells l ++ cells m := List.flatMap_append
theorem cells_length (l : List Ev) : (cells l).length = l.length * 8 := flat_length (f := evL) (sz := 8) (fun _ => rfl) l
theorem cells_one (l : List Ev) : ∀ u ∈ cells l, u.oneCell' = true := by
  intro u hu
  simp only [cells, List.mem_flatMap] at hu
  obtain ⟨x, _, hx⟩ := hu
  exact evL_one x u hx
/-- What Grow(nil, n) leaves: a new array with room for n elements. -/
def GrowPost (w : World) (n : Nat) (e : Ending) (w' : World) : Prop :=
  ∃ cap, e = .returned (.slice (some ⟨w.heap.size, 0, none⟩) 0 cap) ∧ n ≤ cap ∧ w'.ownsRow w.heap.size 31 8 (.slice (some ⟨w.heap.size, 0, none⟩) 0 cap) 0 [] ∧ Below w.heap.size w w'
theorem nextcap (n : Nat) (h : 0 < n) : Builtin.nextslicecap n 0 = n := by unfold Builtin.nextslicecap; rw [if_pos (by omega)]
theorem grow_post (w : World) (n cap : Nat) (hn : n ≤ cap) (hm : cap ≤ maxLen) :
    GrowPost w n (.returned (.slice (some ⟨w.heap.size, 0, none⟩) 0 cap)) (w.alloc (Obj.cells (Builtin.zeroCells #[.string { data := #[] }, .int .i64 0, .int .i64 0, .int .i64 0, .string { data := #[] }, .string { data := #[] }, .int .i64 0, .int .i64 0] n ++ Builtin.zeroCells #[.string { data := #[] }, .int .i64 0, .int .i64 0, .int .i64 0, .string { data := #[] }, .string { data := #[] }, .int .i64 0, .int .i64 0] (cap - n)) 31)).drew := by
  refine ⟨cap, rfl, hn, ?_, by go_grown⟩
  exact World.ownsRow.drew (World.ownsRow_made w _ cap (Nat.le_refl _) hm (by simp [size_zeroCells]; omega))
set_option maxHeartbeats 1000000 in
set_option maxRecDepth 100000 in
theorem grow_some (n : Nat) (hn : 0 < n) (hn' : n ≤ 3198579280802) (w : World) :
    Calls Tryz.prog 65 #[.slice none 0 0, .int .i64 n] w (GrowPost w n) := by
  have hb := e_bytes
  have hx := nextcap n hn
  have hc1 := grownCap_ge w n 0 31
  have hc2 := grownCap_le_maxLen w n 0 31 (by unfold maxLen; omega)
  unfold grownCap at hc1 hc2
  go_enter Tryz.func65, Tryz.ntmps65
  go_wp2
  all_goals first | (exfalso; simp_all; omega) | skip
  go_ret
  exact grow_post w n _ hc1 hc2
theorem grow_none (w : World) :
    Calls Tryz.prog 65 #[.slice none 0 0, .int .i64 0] w fun e w' => e = .returned (.slice none 0 0) ∧ w = w' := by
  go_enter Tryz.func65, Tryz.ntmps65
  go_wp2
  go_ret
  exact ⟨rfl, rfl⟩
def tot (L : Nat → Nat) : Nat → Nat
  | 0 => 0
  | k + 1 => tot L k + L k
def cat {α : Type} (ls : Nat → List α) : Nat → List α
  | 0 => []
  | k + 1 => cat ls k ++ ls k
theorem tot_mono (L : Nat → Nat) {j k : Nat} (h : j ≤ k) : tot L j ≤ tot L k := by
  induction h with
  | refl => exact Nat.le_refl _
  | step _ ih => exact Nat.le_trans ih (Nat.le_add_right _ _)
theorem cat_length {α : Type} (ls : Nat → List α) (L : Nat → Nat) (n : Nat) (h : ∀ i, i < n → (ls i).length = L i) : (cat ls n).length = tot L n := by
  induction n with
  | zero => rfl
  | succ k ih => simp only [cat, tot, List.length_append]; rw [ih (fun i hi => h i (by omega)), h k (by omega)]
def CatPost (w : World) (l : List Ev) (e : Ending) (w' : World) : Prop :=
  ∃ a cap, e = .returned (.slice a l.length cap) ∧ Sl w' (.slice a l.length cap) l.length (cells l) ∧ w'.ownsRow w.heap.size 31 8 (.slice a l.length cap) l.length (cells l) ∧ Below w.heap.size w w'
set_option maxHeartbeats 1000000 in
set_option maxRecDepth 100000 in
theorem cat_any (b o n cap : Nat) (A : Nat → Option Addr) (L C : Nat → Nat) (ls : Nat → List Ev) (w : World) (hn : n ≤ 9223372036854775807)
    (hcell : ∀ i, i < n → w.cell? ⟨b, o + i, none⟩ = some (.slice (A i) (L i) (C i)))
    (hsl : ∀ i, i < n → Sl w (.slice (A i) (L i) (C i)) (L i) (cells (ls i))) (hlen : ∀ i, i < n → (ls i).length = L i)
    (htot : tot L n ≤ 3198579280802) :
    Calls Tryz.prog 48 #[.slice (some ⟨b, o, none⟩) n cap] w (CatPost w (cat ls n)) := by
  have HC := Lib.hid hcell
  have HS := Lib.hid hsl
  have HL := Lib.hid hlen
  have HB := Lib.hid e_info
  clear hcell hsl hlen
  go_enter Tryz.func48, Tryz.ntmps48
  go_wp2
  go_loop [3, 5, 11] (fun t _ i => ∃ k : Nat, k ≤ n ∧ i = .int .i64 k ∧ t = .int .i64 (tot L k)) (fun _ _ i => n - (intOf i).toNat)
  case atStart => exact ⟨0, by omega, rfl, rfl⟩
  case round =>
    obtain ⟨k, hk, rfl, rfl⟩ := hrel
    have hm := tot_mono L hk
    by_cases hlt : k < n
    · have hc := HC.out k hlt
      have hm2 := tot_mono L (show k + 1 ≤ n by omega)
      simp only [tot] at hm2
      go_wp2
      go_round
      case rel => exact ⟨k + 1, by omega, by go_num, by simp only [tot]; go_num⟩
      case measure => simp [intOf]; omega
    · have hkn : k = n := by omega
      subst hkn
      by_cases h0 : 0 < tot L k
      · go_wp2_with fail
        refine (grow_some _ h0 htot _).mono ?_
        rintro e w1 ⟨cap1, rfl, hcap, hown, hb1⟩
        go_wp2
        go_loopw [6, 8, 27] (fun v _ i wr => ∃ j : Nat, j ≤ k ∧ i = .int .i64 j ∧ v = .slice (some ⟨w.heap.size, 0, none⟩) (tot L j) cap1 ∧ wr.ownsRow w.heap.size 31 8 (.slice (some ⟨w.heap.size, 0, none⟩) (tot L j) cap1) (tot L j) (cells (cat ls j)) ∧ Below w.heap.size w wr) (fun _ _ i _ => k - (intOf i).toNat)
        case atStart => exact ⟨0, by omega, rfl, rfl, hown, hb1⟩
        case round =>
          obtain ⟨j, hj, rfl, rfl, hownj, hbj⟩ := hrel
          by_cases hjk : j < k
          · have hc := cell_later hbj (HC.out j hjk)
            have hs := (HS.out j hjk).ext hbj
            have hlj := HL.out j hjk
            have hm2 := tot_mono L (show j + 1 ≤ k by omega)
            simp only [tot] at hm2
            have HLJ := Lib.hid hlj
            clear hlj
            go_wp2_with (at_builtin; refine wpList_append_spare_sl rfl _ _ 22 rfl w.heap.size 31 Tryz.underlying22 HB.out rfl hownj rfl hs ?c1 (cells_one _) ?c2 ?_; rotate_left 2; intro w2 hown2 hg2)
            case c1 => rw [cells_length, HLJ.out]
            case c2 => omega
            rw [← cells_append] at hown2
            have hb2 := hbj.grown hg2 hbj.size (fun k e => by cases e; exact Nat.le_refl _)
            go_wp2
            go_roundw
            case rel => exact ⟨j + 1, by omega, by go_num, rfl, hown2, hb2⟩
            case measure => simp [intOf]; omega
          · have hjk' : j = k := by omega
            subst hjk'
            have hcl := cat_length ls L j HL.out
            have HCL := Lib.hid hcl
            clear hcl
            go_wp2
            go_ret
            exact ⟨_, _, by rw [HCL.out]; rfl, by rw [HCL.out]; exact Sl.ofOwn hownj, by rw [HCL.out]; exact hownj, hbj⟩
      · have h00 : tot L k = 0 := by omega
        have HT := Lib.hid h00
        have ht0 : ((tot L k : Nat) : Int) = 0 := by omega
        clear h00
        rw [ht0]
        go_wp2_with fail
        refine (grow_none _).mono ?_
        rintro e w1 ⟨rfl, rfl⟩
        go_wp2
        go_loopw [6, 8, 27] (fun v _ i wr => ∃ j : Nat, j ≤ k ∧ i = .int .i64 j ∧ v = .slice none 0 0 ∧ Below w.heap.size w wr) (fun _ _ i _ => k - (intOf i).toNat)
        case atStart => exact ⟨0, by omega, rfl, rfl, Below.refl _ _⟩
        case round =>
          obtain ⟨j, hj, rfl, rfl, hbj⟩ := hrel
          by_cases hjk : j < k
          · have hc := cell_later hbj (HC.out j hjk)
            have hs := (HS.out j hjk).ext hbj
            have hlj := HL.out j hjk
            have hm2 := tot_mono L (show j + 1 ≤ k by omega)
            simp only [tot] at hm2
            have hL0 : L j = 0 := by have := HT.out; omega
            rw [hL0] at hc hs hlj
            have hl0 : ls j = [] := List.length_eq_zero_iff.1 hlj
            rw [hl0] at hs
            clear hlj hl0 hm2 hL0 ht0
            go_wp2_with (at_builtin; refine wpList_append_sl rfl _ _ 22 rfl w.heap.size 31 Tryz.underlying22 HB.out rfl (by decide) rfl (World.ownsRow_nil _ _ _ _) rfl hs rfl (by simp [cells]) (by decide) (by decide) hbj.size ?_; intro v2 w2 hown2 hg2 hv2)
            obtain rfl := hv2.2 ⟨rfl, rfl⟩
            have hb2 := hbj.grown hg2 hbj.size (fun k e => by cases e)
            go_wp2
            go_roundw
            case rel => exact ⟨j + 1, by omega, by go_num, rfl, hb2⟩
            case measure => simp [intOf]; omega
          · have hjk' : j = k := by omega
            subst hjk'
            have hcl := cat_length ls L j HL.out
            have hcn : cat ls j = [] := List.length_eq_zero_iff.1 (by rw [hcl]; exact HT.out)
            have HCN := Lib.hid hcn
            clear hcl hcn
            go_wp2
            go_ret
            exact ⟨none, 0, by rw [HCN.out]; rfl, by rw [HCN.out]; exact Sl.nil _, by rw [HCN.out]; exact World.ownsRow_nil _ _ _ _, hbj⟩
def pick2 {α : Type} (x y : α) : Nat → α
  | 0 => x
  | _ => y
theorem forall2 {p : Nat → Prop} (h0 : p 0) (h1 : p 1) : ∀ i, i < 2 → p i := by
  intro i hi
  obtain rfl | rfl : i = 0 ∨ i = 1 := by omega
  · exact h0
  · exact h1
theorem cat_two (b cap : Nat) (a0 a1 : Option Addr) (n0 n1 c0 c1 : Nat) (l0 l1 : List Ev) (w : World)
    (h0 : w.cell? ⟨b, 0, none⟩ = some (.slice a0 n0 c0)) (h1 : w.cell? ⟨b, 1, none⟩ = some (.slice a1 n1 c1))
    (s0 : Sl w (.slice a0 n0 c0) n0 (cells l0)) (s1 : Sl w (.slice a1 n1 c1) n1 (cells l1))
    (e0 : l0.length = n0) (e1 : l1.length = n1) (ht : n0 + n1 ≤ 3198579280802) :
    Calls Tryz.prog 48 #[.slice (some ⟨b, 0, none⟩) 2 cap] w (CatPost w (l0 ++ l1)) := by
  have := cat_any b 0 2 cap (pick2 a0 a1) (pick2 n0 n1) (pick2 c0 c1) (pick2 l0 l1) w (by omega)
    (forall2 (p := fun i => w.cell? ⟨b, 0 + i, none⟩ = some (.slice (pick2 a0 a1 i) (pick2 n0 n1 i) (pick2 c0 c1 i))) h0 h1) (forall2 (p := fun i => Sl w (.slice (pick2 a0 a1 i) (pick2 n0 n1 i) (pick2 c0 c1 i)) (pick2 n0 n1 i) (cells (pick2 l0 l1 i))) s0 s1) (forall2 (p := fun i => (pick2 l0 l1 i).length = pick2 n0 n1 i) e0 e1) (by simp only [tot, pick2]; omega)
  simpa [cat, pick2] using this
def CatFrom (w : World) (l : List Ev) (e : Ending) (w' : World) : Prop :=
  ∃ a cap, e = .returned (.slice a l.length cap) ∧ Sl w' (.slice a l.length cap) l.length (cells l) ∧ w'.ownsRow w.heap.size 31 8 (.slice a l.length cap) l.length (cells l) ∧ Below w.heap.size w w'
theorem own_up {w : World} {base base' n : Nat} {v : Value} {xs : List Value} (h : w.ownsRow base' 31 8 v n xs) (hb : base ≤ base') : w.ownsRow base 31 8 v n xs := by
  obtain ⟨h1, h2 | ⟨g, cap, cur, h3, h4, h5⟩⟩ := h
  · exact ⟨h1, .inl h2⟩
  · exact ⟨h1, .inr ⟨g, cap, cur, h3, Nat.le_trans hb h4, h5⟩⟩
theorem cat_new' (w : World) (a0 a1 : Option Addr) (c0 c1 : Nat) (l0 l1 : List Ev) (s0 : Sl w (.slice a0 l0.length c0) l0.length (cells l0)) (s1 : Sl w (.slice a1 l1.length c1) l1.length (cells l1)) (ht : l0.length + l1.length ≤ 3198579280802) :
    Calls Tryz.prog 48 #[.slice (some ⟨w.heap.size, 0, none⟩) 2 2] (w.alloc (.cells #[.slice a0 l0.length c0, .slice a1 l1.length c1] 22)) (CatFrom w (l0 ++ l1)) := by
  have hb : Below w.heap.size w (w.alloc (.cells #[.slice a0 l0.length c0, .slice a1 l1.length c1] 22)) := by go_grown
  refine (cat_two _ _ a0 a1 _ _ c0 c1 l0 l1 _ (by simp) (by simp) (s0.ext hb) (s1.ext hb) rfl rfl ht).mono ?_
  rintro e w' ⟨a, cap, rfl, h1, h2, h3⟩
  exact ⟨a, cap, rfl, h1, own_up h2 (by simp), ext_trans hb h3⟩
def pick3 {α : Type} (x y z : α) : Nat → α
  | 0 => x
  | 1 => y
  | _ => z
theorem forall3 {p : Nat → Prop} (h0 : p 0) (h1 : p 1) (h2 : p 2) : ∀ i, i < 3 → p i := by
  intro i hi
  obtain rfl | rfl | rfl : i = 0 ∨ i = 1 ∨ i = 2 := by omega
  · exact h0
  · exact h1
  · exact h2
theorem cat_three (b cap : Nat) (a0 a1 a2 : Option Addr) (n0 n1 n2 c0 c1 c2 : Nat) (l0 l1 l2 : List Ev) (w : World)
    (h0 : w.cell? ⟨b, 0, none⟩ = some (.slice a0 n0 c0)) (h1 : w.cell? ⟨b, 1, none⟩ = some (.slice a1 n1 c1)) (h2 : w.cell? ⟨b, 2, none⟩ = some (.slice a2 n2 c2))
    (s0 : Sl w (.slice a0 n0 c0) n0 (cells l0)) (s1 : Sl w (.slice a1 n1 c1) n1 (cells l1)) (s2 : Sl w (.slice a2 n2 c2) n2 (cells l2))
    (e0 : l0.length = n0) (e1 : l1.length = n1) (e2 : l2.length = n2) (ht : n0 + n1 + n2 ≤ 3198579280802) :
    Calls Tryz.prog 48 #[.slice (some ⟨b, 0, none⟩) 3 cap] w (CatPost w (l0 ++ l1 ++ l2)) := by
  have := cat_any b 0 3 cap (pick3 a0 a1 a2) (pick3 n0 n1 n2) (pick3 c0 c1 c2) (pick3 l0 l1 l2) w (by omega)
    (forall3 (p := fun i => w.cell? ⟨b, 0 + i, none⟩ = some (.slice (pick3 a0 a1 a2 i) (pick3 n0 n1 n2 i) (pick3 c0 c1 c2 i))) h0 h1 h2) (forall3 (p := fun i => Sl w (.slice (pick3 a0 a1 a2 i) (pick3 n0 n1 n2 i) (pick3 c0 c1 c2 i)) (pick3 n0 n1 n2 i) (cells (pick3 l0 l1 l2 i))) s0 s1 s2) (forall3 (p := fun i => (pick3 l0 l1 l2 i).length = pick3 n0 n1 n2 i) e0 e1 e2) (by simp only [tot, pick3]; omega)
  simpa [cat, pick3] using this
end CCCatE
end Go.Proofs.YtbgbfjfboaajbaaGreatDoor
