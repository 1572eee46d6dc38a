/- known of package event. known of the reference, Known of package event and of the reference. -/
import Derived.Test.YtacchooggifnhaaDoorCl02
import Derived.Maps.OwnOps
import Derived.Maps.OwnSet
namespace Go.Proofs.YtacchooggifnhaaDoor
open Go.RowKit Go.Maps
def minL (f : ByteArray → Int) : Int → List ByteArray → Int
  | o, [] => o
  | o, s :: r => minL f (mn o (f s)) r
theorem minL_step (f : ByteArray → Int) (o : Int) {l : List ByteArray} {k : Nat} {s : ByteArray} (h : l[k]? = some s) : minL f o (l.drop k) = minL f (mn o (f s)) (l.drop (k + 1)) := by
  obtain ⟨hk, rfl⟩ := List.getElem?_eq_some_iff.1 h
  rw [List.drop_eq_getElem_cons hk]; rfl
theorem lawS : Keyed Tryd.prog 9 := string_keyed Tryd.underlying9
theorem zeroI (w : World) : (zeroValue 3).run Tryd.prog w = .ok (.int .i64 0) w := by kernel_rfl
theorem ownsMap_ext {H : Type} {P : Program} {k : TypeId} {R : Value → Option (DataW H × List MemPlace)} {b n : Nat} {D : DataW H} {w w' : World} (h : w.ownsMap P k R b n D) (hb : Below w.heap.size w w') : w'.ownsMap P k R b n D := by
  have hlt := h.lt
  obtain ⟨es, clock, h1, F, h2, hD⟩ := h
  exact ⟨es, clock, (hb.block b hlt).trans h1, F, h2, hD⟩
theorem ownsMap_more {H : Type} {P : Program} {k : TypeId} {R : Value → Option (DataW H × List MemPlace)} {b n m : Nat} {D : DataW H} {w : World} (h : w.ownsMap P k R b n D) (hm : n ≤ m) : w.ownsMap P k R b m D := by
  obtain ⟨es, clock, h1, F, h2, hD⟩ := h
  exact ⟨es, clock, h1, F, Nat.le_trans h2 hm, hD⟩
def Reads (D : DataW Unit) (f : ByteArray → Int) : Prop := ∀ s : ByteArray, D.atKey (.string s.data.toList) (.lit (.int .i64 0)) = .lit (.int .i64 (f s))
theorem Reads.put {D : DataW Unit} {f g : ByteArray → Int} (h : Reads D f) (hm : IsMap D) (s : ByteArray) (c : Int) (hs : g s = c) (ho : ∀ x, x ≠ s → g x = f x) : Reads (D.put (.string s.data.toList) (.lit (.int .i64 c))) g := by
  intro x
  by_cases hx : x = s
  · subst hx; rw [atKey_put_same hm (show WideAt.IsKeyLit (.string x.data.toList) from trivial), hs]
  · rw [atKey_put_other (fun e => hx (bytes_ext (by injection e))), h x, ho x hx]
theorem Reads.same {D : DataW Unit} {f g : ByteArray → Int} (h : Reads D f) (ho : ∀ x, g x = f x) : Reads D g := fun x => by rw [h x, ho x]
theorem Reads.val {D : DataW Unit} {f : ByteArray → Int} (h : Reads D f) {s : ByteArray} {c : Int} (hc : D.atKey (.string s.data.toList) (.lit (.int .i64 0)) = .lit (.int .i64 c)) : c = f s := by
  rw [h s] at hc; injection hc with h1; injection h1 with _ h2; exact h2.symm
theorem wf_mx {c t : Int} (h : (Lit.int .i64 c).wf = true) (h0 : 0 ≤ t) (h1 : t ≤ 4000000000) : (Lit.int .i64 (mx c t)).wf = true := by
  unfold mx; split
  · exact WalkArith.wf_i64 (by omega)
  · exact h
theorem whole_step {l : List Ev} {k : Nat} {e : Ev} {b : Bool} {nx : Int} (hg : l[k]? = some e) (hb : (if newAt l k then true else wholeTo l k) = b) (hx : nextAt l k = nx) : wholeTo l (k + 1) = (b && decide (e.number = nx)) := by
  simp only [wholeTo, hg, hx]; rw [hb]
theorem by_yes {l : List Ev} {k : Nat} {e : Ev} (hg : l[k]? = some e) (hw : wholeTo l (k + 1) = true) (hk : e.kind = 3) : byTo l e.shard (k + 1) = mx (byTo l e.shard k) e.time ∧ ∀ x, x ≠ e.shard → byTo l x (k + 1) = byTo l x k := by
  refine ⟨by simp only [byTo, hg, hw, hk, and_self, if_true], fun x hx => ?_⟩
  simp only [byTo, hg]; rw [if_neg (fun h => hx h.2.2.symm)]
theorem by_no {l : List Ev} {k : Nat} {e : Ev} (hg : l[k]? = some e) (hn : wholeTo l (k + 1) = false ∨ e.kind ≠ 3) (x : ByteArray) : byTo l x (k + 1) = byTo l x k := by
  simp only [byTo, hg]
  rw [if_neg]
  rintro ⟨h1, h2, _⟩
  rcases hn with h | h
  · rw [h1] at h; cases h
  · exact h h2
def knownE (l : List Ev) (L : List ByteArray) : Int := match L with
  | [] => 0
  | s :: _ => minL (fun x => byTo l x l.length) (byTo l s l.length) L

set_option maxRecDepth 100000 in
set_option maxHeartbeats 16000000 in
theorem event_known (l : List Ev) (hok : ∀ e ∈ l, e.ok) (hck : ∀ e ∈ l, checkE e = 0) (hlen : l.length ≤ 20000) (s0 : ByteArray) (r : List ByteArray) (L : List ByteArray) (hL : L = s0 :: r) (hsz : ∀ s ∈ L, s.size ≤ maxLen) (hl50 : L.length ≤ 50) (a a2 : Option Addr) (c c2 : Nat) (w : World)
    (hs : Sl w (.slice a l.length c) l.length (l.flatMap evL)) (hs2 : Sl w (.slice a2 L.length c2) L.length (L.map Value.string)) :
    Calls Tryd.prog 17 #[.slice a l.length c, .slice a2 L.length c2] w fun e w' => e = .returned (.int .i64 (knownE l L)) ∧ Below w.heap.size w w' := by
  have HRES : Hid (knownE l L = minL (fun x => byTo l x l.length) (byTo l s0 l.length) L) := by
    have : knownE l L = minL (fun x => byTo l x l.length) (byTo l s0 l.length) L := by subst hL; rfl
    exact this
  have HL0 : Hid (L[0]? = some s0) := by have : L[0]? = some s0 := by subst hL; rfl
                                         exact this
  have hpos : 0 < L.length := by subst hL; simp
  have HCK := Lib.hid hck
  have HOK := Lib.hid hok
  have HSZ := Lib.hid hsz
  clear hL hck hok hsz
  have hmm := @run_makeMap Tryd.prog
  go_enter Tryd.func17, Tryd.ntmps17
  go_wp2
  go_loopw [6, 16] (fun v i wr => ∃ (k : Nat) (D : DataW Unit), k ≤ l.length ∧ i = .int .i64 k ∧ v = .bool (wholeTo l k) ∧ wr.ownsMap Tryd.prog 9 (plainElem Tryd.prog 3) w.heap.size k D ∧ Hid (Reads D (fun s => byTo l s k)) ∧ Below w.heap.size w wr) (fun _ i _ => l.length - (intOf i).toNat)
  case atStart => exact ⟨0, _, by omega, rfl, rfl, World.ownsMap_made _ _ _ _, fun _ => rfl, (Below.refl _ _).alloc (Nat.le_refl _) _⟩
  case round =>
    obtain ⟨k, D, hk, rfl, rfl, hown, HD, hb⟩ := hrel
    by_cases hlt : k < l.length
    · have hgk := List.getElem?_eq_getElem hlt
      obtain ⟨hn1, hn2, ht1, ht2⟩ := number_ok (HCK.out l[k] (List.getElem_mem _))
      have hok := HOK.out l[k] (List.getElem_mem _)
      generalize l[k] = s at hgk hn1 hn2 ht1 ht2 hok
      have hkey : keyOf Tryd.prog 9 (.string s.shard) = some (.string s.shard.data.toList) := WideMaps.keyOf_string_mk Tryd.underlying9 hok.1
      obtain ⟨b, o, rfl, e0, e1, e2, e3, e4, e5, e6, e7⟩ := ev_cells (hs.ext hb) hgk
      have HGK := Lib.hid hgk
      clear hgk hok
      go_upto_region 7 with (fail)
      clear e0 e1 e2 e3 e4 e5 e6 e7
      refine wp_box1 fun X hszX hbX hX => ?_
      have hbx := ext_trans hb hbX
      have hownX := ownsMap_ext hown hbX
      have hszx := hbx.size
      have g0 := hX.2 0
      have g1 := hX.2 1
      have g2 := hX.2 2
      have g3 := hX.2 3
      clear hszX hown hb hbX hX
      by_cases h0 : k = 0
      · subst h0
        have HX : Hid (nextAt l 0 = 1) := rfl
        have HB : Hid ((if newAt l 0 then true else wholeTo l 0) = true) := rfl
        have hwh : wholeTo l 0 = true := rfl
        go_quiet (fail)
        clear hwh
        have hownX' := ownsMap_ext hownX (below_drewN (Below.refl _ _) nq)
        have hbx' := ext_trans hbx (below_drewN (Below.refl _ _) nq)
        clear hownX hbx
        by_cases hn : s.number = 1
        · have HW : Hid (wholeTo l (0 + 1) = true) := by have := whole_step HGK.out HB.out HX.out; simp [hn] at this; exact this
          by_cases hkd : s.kind = 3
          · have HBY := Lib.hid (by_yes HGK.out HW.out hkd)
            go_wp2_with (first | (at_lookup; refine wpList_lookup_own_int _ rfl _ _ 72 rfl 9 3 .i64 lawS Tryd.underlying72 Tryd.underlying3 (zeroI _) w.heap.size _ _ rfl hownX' _ _ rfl hkey ?_; intro cc hat hwc) | (at_mapUpdate; refine wpList_mapUpdate_own _ rfl _ _ _ 72 rfl 9 3 lawS Tryd.underlying72 _ w.heap.size _ _ rfl hownX' (by unfold maxLen; omega) _ (.int .i64 (mx cc s.time)) _ rfl rfl hkey _ [] (plainElem_int Tryd.underlying3 (wf_mx hwc ht1 ht2)) ?_; intro w8 hown8 hg8) | go_in)
            go_roundw
            case rel => exact ⟨0 + 1, _, by omega, by go_num, by rw [HW.out], ownsMap_more hown8 (by omega), HD.out.put (hownX'.isMap) s.shard _ (by rw [HBY.out.1, HD.out.val hat]) HBY.out.2, hbx'.grown hg8 hbx'.size (fun q hq => by cases hq; exact Nat.le_refl _)⟩
            case measure => simp [intOf]; omega
          · have HD' : Hid (Reads D (fun x => byTo l x (0 + 1))) := HD.out.same (by_no HGK.out (.inr hkd))
            go_wp2
            go_roundw
            case rel => exact ⟨0 + 1, D, by omega, by go_num, by rw [HW.out], ownsMap_more hownX' (by omega), HD', hbx'⟩
            case measure => simp [intOf]; omega
        · have HW : Hid (wholeTo l (0 + 1) = false) := by have := whole_step HGK.out HB.out HX.out; simp [hn] at this; exact this
          have HD' : Hid (Reads D (fun x => byTo l x (0 + 1))) := HD.out.same (by_no HGK.out (.inl HW.out))
          go_wp2
          go_roundw
          case rel => exact ⟨0 + 1, D, by omega, by go_num, by rw [HW.out] <;> simp [hn], ownsMap_more hownX' (by omega), HD', hbx'⟩
          case measure => simp [intOf]; omega
      · obtain ⟨j, rfl⟩ : ∃ j, k = j + 1 := ⟨k - 1, by omega⟩
        have hgj := List.getElem?_eq_getElem (show j < l.length by omega)
        obtain ⟨hm1, hm2, _⟩ := number_ok (HCK.out l[j] (List.getElem_mem _))
        have hnx : nextAt l (j + 1) = if (l[j]).shard = s.shard then (l[j]).number + 1 else 1 := by rw [nextAt, hgj, HGK.out]
        have hnew : newAt l (j + 1) = decide (s.shard ≠ (l[j]).shard) := by rw [newAt, HGK.out, hgj]; simp
        generalize l[j] = s' at hgj hm1 hm2 hnx hnew
        obtain ⟨b', o', hb', f0, f1, _⟩ := ev_cells (hs.ext hbx) hgj
        cases hb'
        have hj0 : (0 : Int) ≤ (j : Int) := Int.natCast_nonneg _
        have hj1 : (j : Int) < (l.length : Int) := by omega
        have hpos1 : decide ((0 : Int) < (j : Int) + 1) = true := decide_eq_true (by omega)
        have hwj : IntKind.i64.wrap (j : Int) = (j : Int) := IntWalk.i64_in _ (by omega)
        clear hgj h0
        by_cases hq : s'.shard = s.shard
        · have hq1 : (s'.shard.toList == s.shard.toList) = true := by rw [hq]; simp
          have HX : Hid (nextAt l (j + 1) = s'.number + 1) := by rw [if_pos hq] at hnx; exact hnx
          obtain ⟨wh, hwh⟩ : ∃ wh, wholeTo l (j + 1) = wh := ⟨_, rfl⟩
          have hnf : newAt l (j + 1) = false := by rw [hnew]; simp [hq]
          have HB : Hid ((if newAt l (j + 1) then true else wholeTo l (j + 1)) = wh) := by
            have : (if newAt l (j + 1) then true else wholeTo l (j + 1)) = wh := by rw [hnf, hwh]; rfl
            exact this
          clear hq hnx hnew hnf
          rw [hwh]
          clear hwh
          cases wh
          · go_quiet (fail)
            clear hwj hpos1
            have hownX' := ownsMap_ext hownX (below_drewN (Below.refl _ _) nq)
            have hbx' := ext_trans hbx (below_drewN (Below.refl _ _) nq)
            clear hownX hbx
            have HW : Hid (wholeTo l ((j + 1) + 1) = false) := by have := whole_step HGK.out HB.out HX.out; simp at this; exact this
            have HD' : Hid (Reads D (fun x => byTo l x ((j + 1) + 1))) := HD.out.same (by_no HGK.out (.inl HW.out))
            go_wp2
            go_roundw
            case rel => exact ⟨(j + 1) + 1, D, by omega, by go_num, by rw [HW.out], ownsMap_more hownX' (by omega), HD', hbx'⟩
            case measure => simp [intOf]; omega
          · go_quiet (fail)
            clear hwj hpos1
            have hownX' := ownsMap_ext hownX (below_drewN (Below.refl _ _) nq)
            have hbx' := ext_trans hbx (below_drewN (Below.refl _ _) nq)
            clear hownX hbx
            by_cases hn : s.number = s'.number + 1
            · have HW : Hid (wholeTo l ((j + 1) + 1) = true) := by have := whole_step HGK.out HB.out HX.out; simp [hn] at this; exact this
              by_cases hkd : s.kind = 3
              · have HBY := Lib.hid (by_yes HGK.out HW.out hkd)
                go_wp2_with (first | (at_lookup; refine wpList_lookup_own_int _ rfl _ _ 72 rfl 9 3 .i64 lawS Tryd.underlying72 Tryd.underlying3 (zeroI _) w.heap.size _ _ rfl hownX' _ _ rfl hkey ?_; intro cc hat hwc) | (at_mapUpdate; refine wpList_mapUpdate_own _ rfl _ _ _ 72 rfl 9 3 lawS Tryd.underlying72 _ w.heap.size _ _ rfl hownX' (by unfold maxLen; omega) _ (.int .i64 (mx cc s.time)) _ rfl rfl hkey _ [] (plainElem_int Tryd.underlying3 (wf_mx hwc ht1 ht2)) ?_; intro w8 hown8 hg8) | go_in)
                go_roundw
                case rel => exact ⟨(j + 1) + 1, _, by omega, by go_num, by rw [HW.out], ownsMap_more hown8 (by omega), HD.out.put (hownX'.isMap) s.shard _ (by rw [HBY.out.1, HD.out.val hat]) HBY.out.2, hbx'.grown hg8 hbx'.size (fun q hq => by cases hq; exact Nat.le_refl _)⟩
                case measure => simp [intOf]; omega
              · have HD' : Hid (Reads D (fun x => byTo l x ((j + 1) + 1))) := HD.out.same (by_no HGK.out (.inr hkd))
                go_wp2
                go_roundw
                case rel => exact ⟨(j + 1) + 1, D, by omega, by go_num, by rw [HW.out], ownsMap_more hownX' (by omega), HD', hbx'⟩
                case measure => simp [intOf]; omega
            · have HW : Hid (wholeTo l ((j + 1) + 1) = false) := by have := whole_step HGK.out HB.out HX.out; simp [hn] at this; exact this
              have HD' : Hid (Reads D (fun x => byTo l x ((j + 1) + 1))) := HD.out.same (by_no HGK.out (.inl HW.out))
              go_wp2
              go_roundw
              case rel => exact ⟨(j + 1) + 1, D, by omega, by go_num, by rw [HW.out] <;> simp [hn], ownsMap_more hownX' (by omega), HD', hbx'⟩
              case measure => simp [intOf]; omega
        · have hq1 : (s'.shard.toList == s.shard.toList) = false := ne_toList hq
          have HX : Hid (nextAt l (j + 1) = 1) := by rw [if_neg hq] at hnx; exact hnx
          have HB : Hid ((if newAt l (j + 1) then true else wholeTo l (j + 1)) = true) := by
            have : newAt l (j + 1) = true := by rw [hnew]; simp [Ne.symm hq]
            rw [this]; exact rfl
          clear hq hnx hnew
          go_quiet (fail)
          clear hwj hpos1
          have hownX' := ownsMap_ext hownX (below_drewN (Below.refl _ _) nq)
          have hbx' := ext_trans hbx (below_drewN (Below.refl _ _) nq)
          clear hownX hbx
          by_cases hn : s.number = 1
          · have HW : Hid (wholeTo l ((j + 1) + 1) = true) := by have := whole_step HGK.out HB.out HX.out; simp [hn] at this; exact this
            by_cases hkd : s.kind = 3
            · have HBY := Lib.hid (by_yes HGK.out HW.out hkd)
              go_wp2_with (first | (at_lookup; refine wpList_lookup_own_int _ rfl _ _ 72 rfl 9 3 .i64 lawS Tryd.underlying72 Tryd.underlying3 (zeroI _) w.heap.size _ _ rfl hownX' _ _ rfl hkey ?_; intro cc hat hwc) | (at_mapUpdate; refine wpList_mapUpdate_own _ rfl _ _ _ 72 rfl 9 3 lawS Tryd.underlying72 _ w.heap.size _ _ rfl hownX' (by unfold maxLen; omega) _ (.int .i64 (mx cc s.time)) _ rfl rfl hkey _ [] (plainElem_int Tryd.underlying3 (wf_mx hwc ht1 ht2)) ?_; intro w8 hown8 hg8) | go_in)
              go_roundw
              case rel => exact ⟨(j + 1) + 1, _, by omega, by go_num, by rw [HW.out], ownsMap_more hown8 (by omega), HD.out.put (hownX'.isMap) s.shard _ (by rw [HBY.out.1, HD.out.val hat]) HBY.out.2, hbx'.grown hg8 hbx'.size (fun q hq => by cases hq; exact Nat.le_refl _)⟩
              case measure => simp [intOf]; omega
            · have HD' : Hid (Reads D (fun x => byTo l x ((j + 1) + 1))) := HD.out.same (by_no HGK.out (.inr hkd))
              go_wp2
              go_roundw
              case rel => exact ⟨(j + 1) + 1, D, by omega, by go_num, by rw [HW.out], ownsMap_more hownX' (by omega), HD', hbx'⟩
              case measure => simp [intOf]; omega
          · have HW : Hid (wholeTo l ((j + 1) + 1) = false) := by have := whole_step HGK.out HB.out HX.out; simp [hn] at this; exact this
            have HD' : Hid (Reads D (fun x => byTo l x ((j + 1) + 1))) := HD.out.same (by_no HGK.out (.inl HW.out))
            go_wp2
            go_roundw
            case rel => exact ⟨(j + 1) + 1, D, by omega, by go_num, by rw [HW.out] <;> simp [hn], ownsMap_more hownX' (by omega), HD', hbx'⟩
            case measure => simp [intOf]; omega
    · have hkl : k = l.length := by omega
      subst hkl
      obtain ⟨b2, o2, rfl, z0⟩ := str_cell (hs2.ext hb) HL0.out
      simp only [Nat.add_zero] at z0
      have hkey0 : keyOf Tryd.prog 9 (.string s0) = some (.string s0.data.toList) := WideMaps.keyOf_string_mk Tryd.underlying9 (HSZ.out s0 (List.mem_of_getElem? HL0.out))
      go_wp2_with (first | (at_lookup; refine wpList_lookup_own_int _ rfl _ _ 72 rfl 9 3 .i64 lawS Tryd.underlying72 Tryd.underlying3 (zeroI _) w.heap.size _ _ rfl hown _ _ rfl hkey0 ?_; intro c0 hat hwc) | go_in)
      obtain rfl := HD.out.val hat
      clear hat z0
      go_loop [10, 72] (fun q i => ∃ (m : Nat) (out : Int), m ≤ L.length ∧ i = .int .i64 m ∧ q = .int .i64 out ∧ Hid (knownE l L = minL (fun x => byTo l x l.length) out (L.drop m))) (fun _ i => L.length - (intOf i).toNat)
      case atStart => exact ⟨0, _, by omega, rfl, rfl, HRES⟩
      case round =>
        obtain ⟨m, out, hm, rfl, rfl, HM⟩ := hrel
        by_cases hlm : m < L.length
        · have hgm := List.getElem?_eq_getElem hlm
          have hszm := HSZ.out L[m] (List.getElem_mem _)
          generalize L[m] = x at hgm hszm
          obtain ⟨b3, o3, hb3, z1⟩ := str_cell (hs2.ext hb) hgm
          cases hb3
          have HM2 : Hid (knownE l L = minL (fun x => byTo l x l.length) (mn out (byTo l x l.length)) (L.drop (m + 1))) := by
            have := HM.out; rw [minL_step _ _ hgm] at this; exact this
          clear hgm
          have hkeyx : keyOf Tryd.prog 9 (.string x) = some (.string x.data.toList) := WideMaps.keyOf_string_mk Tryd.underlying9 hszm
          go_wp2_with (first | (at_lookup; refine wpList_lookup_own_int _ rfl _ _ 72 rfl 9 3 .i64 lawS Tryd.underlying72 Tryd.underlying3 (zeroI _) w.heap.size _ _ rfl hown _ _ rfl hkeyx ?_; intro c1 hat1 hwc1) | go_in)
          obtain rfl := HD.out.val hat1
          go_round
          case rel => exact ⟨m + 1, _, by omega, by go_num, rfl, HM2⟩
          case measure => simp [intOf]; omega
        · have HF : Hid (knownE l L = out) := by
            have := HM.out
            rw [drop_nil L m (by omega)] at this
            exact this
          go_wp2
          go_ret
          exact ⟨ret_int HF.out.symm, hb⟩
end Go.Proofs.YtacchooggifnhaaDoor
namespace Go.Proofs.YtacchooggifnhaaDoor
open Go.RowKit
def knownR (l : List Ev) (L : List ByteArray) : Int := minL (fun x => kOf x 0 0 l) 4000000000 L
theorem kOf_le (s : ByteArray) : ∀ (l : List Ev) (out n : Int), (∀ e ∈ l, checkE e = 0) → out ≤ 4000000000 → kOf s out n l ≤ 4000000000
  | [], _, _, _, h => h
  | e :: r, out, n, hc, h => by
    have ht := (number_ok (hc e (by simp))).2.2.2
    have hc' : ∀ x ∈ r, checkE x = 0 := fun x hx => hc x (by simp [hx])
    simp only [kOf]
    split
    · split
      · refine kOf_le s r _ _ hc' ?_
        split
        · unfold mx; split <;> omega
        · exact h
      · exact h
    · exact kOf_le s r _ _ hc' h
theorem known_same {l : List Ev} (h : checkL l = 0) (s : ByteArray) (r : List ByteArray) : knownE l (s :: r) = knownR l (s :: r) := by
  have hf : (fun x => byTo l x l.length) = fun x => kOf x 0 0 l := funext fun x => by_known h x
  have hle := kOf_le s l 0 0 (check_ok h).1 (by omega)
  show minL (fun x => byTo l x l.length) (byTo l s l.length) (s :: r) = minL (fun x => kOf x 0 0 l) 4000000000 (s :: r)
  rw [hf, by_known h s]
  simp only [minL]
  congr 1
  unfold mn
  by_cases hq : kOf s 0 0 l < 4000000000
  · rw [if_pos hq]; simp
  · rw [if_neg hq]; simp; omega
theorem checkSh_ok {L : List ByteArray} (h : checkSh L = 0) : L ≠ [] ∧ L.length ≤ 50 := by
  unfold checkSh at h
  split at h
  · cases h
  · split at h
    · cases h
    · refine ⟨?_, by omega⟩
      rintro rfl
      simp_all

end Go.Proofs.YtacchooggifnhaaDoor
