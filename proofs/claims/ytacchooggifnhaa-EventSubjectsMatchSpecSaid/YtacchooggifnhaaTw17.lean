/- Subjects of the reference. Printed by gen_rsub.py. Returned of the reference. Printed by gen_rsub.py. -/
import Derived.Test.YtacchooggifnhaaTw16
namespace Go.Proofs.Ytacchooggifnhaa
open Go.RowKit
namespace Ex
theorem subs_are {len bf : Int} {name : ByteArray} {kn : Int} {l : List Ev} (o : List Sbj) : (o.map (cntX 0 len bf name l)).map (fun s => { s with closed := decide (s.time + len ≤ kn) }) = o.map (subS len bf name kn l) := by
  rw [List.map_map]
  refine List.map_congr_left fun s _ => ?_
  have h := (cntX_same 0 len bf name l s).2.1
  show ({ cntX 0 len bf name l s with closed := decide ((cntX 0 len bf name l s).time + len ≤ kn) } : Sbj) = _
  rw [h]; rfl
set_option maxRecDepth 100000 in
set_option maxHeartbeats 16000000 in
theorem refSubjects_at (l : List Ev) (hok : ∀ e ∈ l, e.ok) (L : List ByteArray) (hsz : ∀ s ∈ L, s.size ≤ maxLen) (x : ByteArray) (hx : x.size ≤ maxLen) (name : ByteArray) (hn : name.size ≤ maxLen) (len bf : Int) (a a2 : Option Addr) (c c2 : Nat) (w : World) (hs : Sl w (.slice a l.length c) l.length (l.flatMap evL)) (hs2 : Sl w (.slice a2 L.length c2) L.length (L.map Value.string)) :
    Calls Try.prog 18 #[.slice a l.length c, .slice a2 L.length c2, .string x, .agg #[.string name, .int .i64 len, .int .i64 bf]] w (SubPost l L x name len bf w) := by
  have hl := hs.len_le
  have HOK := Lib.hid hok
  have HS := Lib.hid hs
  have HS2 := Lib.hid hs2
  have HSZ := Lib.hid hsz
  have HX := Lib.hid hx
  have HNM := Lib.hid hn
  clear hok hs hs2 hsz hx hn
  go_enter Try.func18, Try.ntmps18
  go_upto_region 1 with (fail)
  refine wp_box1 fun W0 hsz0 hb0 hA0 => ?_
  clear hsz0
  obtain ⟨wb, hwb⟩ : ∃ z, w.heap.size = z := ⟨_, rfl⟩
  rw [hwb] at hA0 ⊢
  have HWB := Lib.hid hwb
  clear hwb
  have HKC := Lib.hid (ref7_Known l HOK.out L HSZ.out a a2 c c2 W0 (HS.out.ext hb0) (HS2.out.ext hb0))
  obtain ⟨f, hf⟩ : ∃ z, knownF l L = z := ⟨_, rfl⟩
  obtain ⟨kn, hkn⟩ : ∃ z, knownN l L = z := ⟨_, rfl⟩
  unfold KnownPost at HKC
  rw [hf, hkn] at HKC
  have HF : Hid (subF l L x name len bf = if f ≠ 0 then f else if nameB x.data.toList = false ∨ nameB name.data.toList = false then 5 else if withinB len 1 100000000 = false ∨ withinB bf 0 100000000 = false then 1 else 0) := Lib.hid (by
    rw [← hf]
    unfold subF knownF
    by_cases h1 : checkL l = 0
    · rw [if_neg (by simp [h1]), if_pos h1]
    · rw [if_pos h1, if_neg h1, if_pos h1])
  have HFC := Lib.hid hf
  have HKN := Lib.hid hkn
  clear hf hkn
  go_wp2_with fail
  refine HKC.out.mono ?_
  rintro e w1 ⟨rfl, hb1⟩
  have hbw1 := ext_trans hb0 hb1
  have hA1 := hA0.ext hb1
  clear hb0 hb1 hA0 HKC
  by_cases h0 : f = 0
  · subst h0
    have HF3 : Hid (subF l L x name len bf = if nameB x.data.toList = false ∨ nameB name.data.toList = false then 5 else if withinB len 1 100000000 = false ∨ withinB bf 0 100000000 = false then 1 else 0) := Lib.hid (HF.out.trans rfl)
    clear HF
    have HFK : Hid (checkL l = 0 ∧ checkSh L = 0) := Lib.hid (by
      have h9 := HFC.out
      unfold knownF at h9
      by_cases h1 : checkL l = 0
      · rw [if_pos h1] at h9; exact ⟨h1, h9⟩
      · rw [if_neg h1] at h9; exact absurd h9 h1)
    obtain ⟨n1, hn1⟩ : ∃ z, nameB x.data.toList = z := ⟨_, rfl⟩
    obtain ⟨n2, hn2⟩ : ∃ z, nameB name.data.toList = z := ⟨_, rfl⟩
    have HX1 := Lib.hid (fun W9 => (by have h9 := ref_IsName x HX.out W9; rw [hn1] at h9; exact h9 : Calls Try.prog 35 #[.string x] W9 fun e w' => e = .returned (.bool n1) ∧ W9 = w'))
    have HX2 := Lib.hid (fun W9 => (by have h9 := ref_IsName name HNM.out W9; rw [hn2] at h9; exact h9 : Calls Try.prog 35 #[.string name] W9 fun e w' => e = .returned (.bool n2) ∧ W9 = w'))
    rw [hn1, hn2] at HF3
    clear hn1 hn2
    have ca0 : w1.cell? ⟨wb, 0, none⟩ = some (.string name) := hA1.2 0
    have ca1 : w1.cell? ⟨wb, 1, none⟩ = some (.int .i64 len) := hA1.2 1
    have ca2 : w1.cell? ⟨wb, 2, none⟩ = some (.int .i64 bf) := hA1.2 2
    go_wp2_with fail
    refine (HX1.out w1).mono ?_
    rintro e w2 ⟨rfl, hw⟩
    subst hw
    cases n1
    · have HN : Hid (subF l L x name len bf = 5) := Lib.hid (HF3.out.trans rfl)
      have HP : Hid (SubPost l L x name len bf w (.returned (.tuple #[.slice none 0 0, .int .i64 5])) w1) := Lib.hid (sub_bad HN.out (by decide) hbw1)
      clear hA1 HN HF3
      go_wp2
      exact bodyPost_ret (v := .tuple #[.slice none 0 0, .int .i64 5]) (by simp [results, Try.results18, go_sem]) rfl HP.out
    go_wp2_with fail
    refine (HX2.out w1).mono ?_
    rintro e w2 ⟨rfl, hw⟩
    subst hw
    cases n2
    · have HN : Hid (subF l L x name len bf = 5) := Lib.hid (HF3.out.trans rfl)
      have HP : Hid (SubPost l L x name len bf w (.returned (.tuple #[.slice none 0 0, .int .i64 5])) w1) := Lib.hid (sub_bad HN.out (by decide) hbw1)
      clear hA1 HN HF3
      go_wp2
      exact bodyPost_ret (v := .tuple #[.slice none 0 0, .int .i64 5]) (by simp [results, Try.results18, go_sem]) rfl HP.out
    have HF4 : Hid (subF l L x name len bf = if withinB len 1 100000000 = false ∨ withinB bf 0 100000000 = false then 1 else 0) := Lib.hid (HF3.out.trans rfl)
    clear HF3 HX1 HX2
    by_cases hr1 : len < 1
    · have HN : Hid (subF l L x name len bf = 1) := Lib.hid (HF4.out.trans (if_pos (.inl (show withinB _ _ _ = false from decide_eq_false (by omega)))))
      have HP : Hid (SubPost l L x name len bf w (.returned (.tuple #[.slice none 0 0, .int .i64 1])) w1) := Lib.hid (sub_bad HN.out (by decide) hbw1)
      clear hA1 HN HF4
      go_wp2
      exact bodyPost_ret (v := .tuple #[.slice none 0 0, .int .i64 1]) (by simp [results, Try.results18, go_sem]) rfl HP.out
    have hr1b : decide (len < 1) = false := decide_eq_false hr1
    by_cases hr2 : 100000000 < len
    · have HN : Hid (subF l L x name len bf = 1) := Lib.hid (HF4.out.trans (if_pos (.inl (show withinB _ _ _ = false from decide_eq_false (by omega)))))
      have HP : Hid (SubPost l L x name len bf w (.returned (.tuple #[.slice none 0 0, .int .i64 1])) w1) := Lib.hid (sub_bad HN.out (by decide) hbw1)
      clear hA1 HN HF4
      go_wp2
      exact bodyPost_ret (v := .tuple #[.slice none 0 0, .int .i64 1]) (by simp [results, Try.results18, go_sem]) rfl HP.out
    have hr2b : decide (100000000 < len) = false := decide_eq_false hr2
    by_cases hr3 : bf < 0
    · have HN : Hid (subF l L x name len bf = 1) := Lib.hid (HF4.out.trans (if_pos (.inr (show withinB _ _ _ = false from decide_eq_false (by omega)))))
      have HP : Hid (SubPost l L x name len bf w (.returned (.tuple #[.slice none 0 0, .int .i64 1])) w1) := Lib.hid (sub_bad HN.out (by decide) hbw1)
      clear hA1 HN HF4
      go_wp2
      exact bodyPost_ret (v := .tuple #[.slice none 0 0, .int .i64 1]) (by simp [results, Try.results18, go_sem]) rfl HP.out
    have hr3b : decide (bf < 0) = false := decide_eq_false hr3
    by_cases hr4 : 100000000 < bf
    · have HN : Hid (subF l L x name len bf = 1) := Lib.hid (HF4.out.trans (if_pos (.inr (show withinB _ _ _ = false from decide_eq_false (by omega)))))
      have HP : Hid (SubPost l L x name len bf w (.returned (.tuple #[.slice none 0 0, .int .i64 1])) w1) := Lib.hid (sub_bad HN.out (by decide) hbw1)
      clear hA1 HN HF4
      go_wp2
      exact bodyPost_ret (v := .tuple #[.slice none 0 0, .int .i64 1]) (by simp [results, Try.results18, go_sem]) rfl HP.out
    have hr4b : decide (100000000 < bf) = false := decide_eq_false hr4
    have hlen : 1 ≤ len ∧ len ≤ 100000000 := by omega
    have hbf : 0 ≤ bf ∧ bf ≤ 100000000 := by omega
    have HN : Hid (subF l L x name len bf = 0) := Lib.hid (HF4.out.trans (if_neg (by unfold withinB; rw [decide_eq_true hlen, decide_eq_true hbf]; simp)))
    have HKR : Hid (kn = knownR l L) := Lib.hid (by rw [← HKN.out]; unfold knownN; rw [if_pos HFK.out.1, if_pos HFK.out.2])
    have hl20 := checkL_len HFK.out.1
    clear HF4 hr1 hr2 hr3 hr4
    go_wp2_with fail
    refine (refExposed_at l x a c w1 HFK.out.1 (HS.out.ext hbw1)).mono ?_
    rintro e w3 ⟨o, ks, p, q, cS, cq, rfl, ho1, ho2, hR, ⟨hol, _⟩, hb3⟩
    have HR := Lib.hid hR
    have hA3 := hA1.ext hb3
    have hbw3 := ext_trans hbw1 hb3
    have hoB : w3.ownsRow w.heap.size 32 8 (.slice p o.length cS) o.length (o.flatMap sbL) := own_base' ho1 hbw1.size
    have HAB : Hid (∀ g, (Value.slice p o.length cS).ownBlock = some g → g ≠ wb) := Lib.hid (fun g hg => by
      have h9 := ho1.lt g hg
      have h8 := hA1.1
      omega)
    have HTA : Hid (∀ s ∈ o, (0 ≤ s.time ∧ s.time ≤ 4000000000) ∧ CntB 0 s) := Lib.hid (fun s hs => by
      refine ⟨?_, (expR_cnt HR.out s hs).1⟩
      obtain ⟨e, he, h8, _⟩ := expR_from' HR.out s hs
      rw [h8]
      exact checkE_time (checkL_each HFK.out.1 e he))
    have ca3 : w3.cell? ⟨wb, 0, none⟩ = some (.string name) := hA3.2 0
    have ca4 : w3.cell? ⟨wb, 1, none⟩ = some (.int .i64 len) := hA3.2 1
    have ca5 : w3.cell? ⟨wb, 2, none⟩ = some (.int .i64 bf) := hA3.2 2
    have HCN := Lib.hid (counted_at l (checkL_each HFK.out.1) hl20 o HR.out.1 hol HTA.out name 0 len bf (by omega) (by omega) (by omega) a p c cS w w3 HS.out hbw3 hoB)
    clear ho1 ho2 hR hb3 hA1 hbw1 ca0 ca1 ca2 hoB
    go_wp2_with fail
    refine HCN.out.mono ?_
    rintro e w5 ⟨rfl, hoB5, hbw5, hg5⟩
    obtain ⟨o1, ho1⟩ : ∃ z, o.map (cntX 0 len bf name l) = z := ⟨_, rfl⟩
    have hl1 : o1.length = o.length := by rw [← ho1, List.length_map]
    have HSUB : Hid (o1.map (fun s => { s with closed := decide (s.time + len ≤ kn) }) = o.map (subS len bf name (knownR l L) l)) := Lib.hid (by rw [← ho1, HKR.out]; exact subs_are o)
    have HTB : Hid (∀ s ∈ o1, 0 ≤ s.time ∧ s.time ≤ 4000000000) := Lib.hid (fun s hs => by
      rw [← ho1] at hs
      obtain ⟨s0, h0, rfl⟩ := List.mem_map.1 hs
      rw [(cntX_same 0 len bf name l s0).2.1]
      exact (HTA.out s0 h0).1)
    rw [ho1] at hoB5
    have HA5 : Hid (Box w5 wb #[.string name, .int .i64 len, .int .i64 bf]) := Lib.hid (box_grown' hA3 hg5 (fun e9 => HAB.out wb e9 rfl))
    have hlo : o.length ≤ 9223372036854775807 := by omega
    clear ho1 hg5 HCN hA3 ca3 ca4 ca5 hbw3
    go_wp2
    go_loopw [70] (fun i wr => ∃ k : Nat, k ≤ o.length ∧ i = .int .i64 k ∧ wr.ownsRow w.heap.size 32 8 (.slice p o.length cS) o.length ((mapTo (fun s => { s with closed := decide (s.time + len ≤ kn) }) o1 k).flatMap sbL) ∧ w5.grownBy wr (Value.slice p o.length cS).ownBlock ∧ Below w.heap.size w wr) (fun i _ => o.length - (intOf i).toNat)
    case atStart => exact ⟨0, by omega, rfl, by rw [mapTo_zero]; exact hoB5, World.grownBy.refl _ _, hbw5⟩
    case round =>
      clear hoB5 hbw5
      obtain ⟨k, hk, rfl, hoU, hgU, hbU⟩ := hrel
      by_cases hlt : k < o.length
      · obtain ⟨s, hgk⟩ : ∃ s, o1[k]? = some s := ⟨_, List.getElem?_eq_getElem (by omega)⟩
        obtain ⟨hst0, hst1⟩ := HTB.out s (List.mem_of_getElem? hgk)
        obtain ⟨g, cap, hgv, hgB⟩ := own_form hoU (by omega)
        obtain rfl : p = some ⟨g, 0, none⟩ := by injection hgv
        obtain rfl : cS = cap := by injection hgv
        clear hgv
        have hgA := HAB.out g rfl
        have hgU' : w5.grownBy wr (some g) := hgU
        have hUl : k < (mapTo (fun s => { s with closed := decide (s.time + len ≤ kn) }) o1 k).length := by rw [mapTo_len]; omega
        have hUs := mapTo_same (f := fun s => { s with closed := decide (s.time + len ≤ kn) }) hgk
        have hUf := mapTo_step (f := fun s => { s with closed := decide (s.time + len ≤ kn) }) hgk
        obtain ⟨U, hU⟩ : ∃ z, mapTo (fun s => { s with closed := decide (s.time + len ≤ kn) }) o1 k = z := ⟨_, rfl⟩
        rw [hU] at hoU hUl hUs hUf
        rw [← hUs] at hoU
        have hor : SR wr w.heap.size g cS o.length (U.set k s) := hoU
        obtain ⟨⟨c0, c1, c3, c4, c5, c6⟩, -, c7, f7⟩ := hor.cells hUl
        have hk0 : (0 : Int) ≤ (k : Int) := Int.natCast_nonneg _
        have hk1 : (k : Int) < (o.length : Int) := by omega
        have hAr := box_grown' HA5.out hgU' (by intro e9; injection e9 with e9; exact hgA e9)
        have ca1 : wr.cell? ⟨wb, 1, none⟩ = some (.int .i64 len) := hAr.2 1
        have hoN0 := hor.put hUl (s' := { s with closed := decide (s.time + len ≤ kn) }) 7 (.bool (decide (s.time + len ≤ kn))) (by decide) rfl
        rw [hUf] at hoN0
        have hgN0 := grown_drew (grown_set hgU' (k * 8 + 7) (.bool (decide (s.time + len ≤ kn))))
        have hbN0 := (hbU.setCell (p := ⟨g, k * 8 + 7, none⟩) hgB (.bool (decide (s.time + len ≤ kn)))).drew
        clear hU hUs hUf hoU hgU hor hAr hgk
        go_wp2_with fail
        go_region
        clear c0 c1 c3 c4 c5 c6 c7 f7 ca1
        have hoN : (wr.setCell ⟨g, k * 8 + 7, none⟩ (.bool (decide (s.time + len ≤ kn)))).drew.ownsRow w.heap.size 32 8 (.slice (some ⟨g, 0, none⟩) o.length cS) o.length ((mapTo (fun s => { s with closed := decide (s.time + len ≤ kn) }) o1 (k + 1)).flatMap sbL) := hoN0
        have hgN : w5.grownBy (wr.setCell ⟨g, k * 8 + 7, none⟩ (.bool (decide (s.time + len ≤ kn)))).drew (Value.slice (some ⟨g, 0, none⟩) o.length cS).ownBlock := hgN0
        clear hoN0 hgN0
        generalize (wr.setCell ⟨g, k * 8 + 7, none⟩ (.bool (decide (s.time + len ≤ kn)))).drew = Z at hoN hgN hbN0 ⊢
        go_wp2
        exact ⟨⟨k + 1, by omega, by go_num, hoN, hgN, hbN0⟩, by simp [intOf]; omega⟩
      · have hall : mapTo (fun s => { s with closed := decide (s.time + len ≤ kn) }) o1 k = o.map (subS len bf name (knownR l L) l) := by rw [mapTo_all (by omega)]; exact HSUB.out
        rw [hall] at hoU
        have HP : Hid (SubPost l L x name len bf w (.returned (.tuple #[.slice p o.length cS, .int .i64 0])) wr) := Lib.hid ⟨o.map (subS len bf name (knownR l L) l), p, cS, by rw [HN.out, List.length_map], by rw [List.length_map]; exact Sl.ofOwn hoU, by rw [if_pos HN.out]; exact ⟨o, ks, HR.out, rfl⟩, hbU⟩
        clear hoU hgU hbU hall
        go_wp2
        exact bodyPost_ret (v := .tuple #[.slice p o.length cS, .int .i64 0]) (by simp [results, Try.results18, go_sem]) rfl HP.out
  · have hne : (f != 0) = true := by simpa using h0
    have HN : Hid (subF l L x name len bf = f) := Lib.hid (HF.out.trans (if_pos h0))
    have HP : Hid (SubPost l L x name len bf w (.returned (.tuple #[.slice none 0 0, .int .i64 f])) w1) := Lib.hid (sub_bad HN.out h0 hbw1)
    clear h0 hA1 HF
    go_wp2
    exact bodyPost_ret (v := .tuple #[.slice none 0 0, .int .i64 f]) (by simp [results, Try.results18, go_sem]) rfl HP.out
end Ex
end Go.Proofs.Ytacchooggifnhaa
namespace Go.Proofs.Ytacchooggifnhaa
open Go.RowKit
namespace Ex
theorem rets_are {fr to : Int} {name : ByteArray} {l : List Ev} {o : List Sbj} (h : ∀ s ∈ o, s.sum = 0) : (o.map (cntX fr to 0 name l)).map (fun s => { s with sum := 0 }) = o.map (retX fr to name l) := by
  rw [List.map_map]
  exact List.map_congr_left fun s hs => ret_is (h s hs)
set_option maxRecDepth 100000 in
set_option maxHeartbeats 16000000 in
theorem refReturned_at (l : List Ev) (hok : ∀ e ∈ l, e.ok) (x : ByteArray) (hx : x.size ≤ maxLen) (name : ByteArray) (hn : name.size ≤ maxLen) (fr to : Int) (a : Option Addr) (c : Nat) (w : World) (hs : Sl w (.slice a l.length c) l.length (l.flatMap evL)) :
    Calls Try.prog 20 #[.slice a l.length c, .string x, .string name, .int .i64 fr, .int .i64 to] w (RetPost l x name fr to w) := by
  have hl := hs.len_le
  have HOK := Lib.hid hok
  have HS := Lib.hid hs
  have HX := Lib.hid hx
  have HNM := Lib.hid hn
  clear hok hs hx hn
  go_enter Try.func20, Try.ntmps20
  go_wp2_with fail
  refine (ref7_CheckLog l HOK.out a c w HS.out).mono ?_
  rintro e w1 ⟨rfl, hbw1⟩
  obtain ⟨f, hf⟩ : ∃ z, checkL l = z := ⟨_, rfl⟩
  have HF : Hid (retF l x name fr to = if f ≠ 0 then f else if nameB x.data.toList = false ∨ nameB name.data.toList = false then 5 else if withinB fr 0 100000000 = false then 1 else if to ≤ fr then 8 else if 100000000 < to then 1 else 0) := Lib.hid (by rw [← hf]; rfl)
  have HCL := Lib.hid hf
  rw [hf]
  clear hf
  by_cases h0 : f = 0
  · subst h0
    have HF3 : Hid (retF l x name fr to = if nameB x.data.toList = false ∨ nameB name.data.toList = false then 5 else if withinB fr 0 100000000 = false then 1 else if to ≤ fr then 8 else if 100000000 < to then 1 else 0) := Lib.hid (HF.out.trans rfl)
    clear HF
    obtain ⟨n1, hn1⟩ : ∃ z, nameB x.data.toList = z := ⟨_, rfl⟩
    obtain ⟨n2, hn2⟩ : ∃ z, nameB name.data.toList = z := ⟨_, rfl⟩
    have HX1 := Lib.hid (fun W9 => (by have h9 := ref_IsName x HX.out W9; rw [hn1] at h9; exact h9 : Calls Try.prog 35 #[.string x] W9 fun e w' => e = .returned (.bool n1) ∧ W9 = w'))
    have HX2 := Lib.hid (fun W9 => (by have h9 := ref_IsName name HNM.out W9; rw [hn2] at h9; exact h9 : Calls Try.prog 35 #[.string name] W9 fun e w' => e = .returned (.bool n2) ∧ W9 = w'))
    rw [hn1, hn2] at HF3
    clear hn1 hn2
    go_wp2_with fail
    refine (HX1.out w1).mono ?_
    rintro e w2 ⟨rfl, hw⟩
    subst hw
    cases n1
    · have HN : Hid (retF l x name fr to = 5) := Lib.hid (HF3.out.trans rfl)
      have HP : Hid (RetPost l x name fr to w (.returned (.tuple #[.slice none 0 0, .int .i64 5])) w1) := Lib.hid (ret_bad HN.out (by decide) hbw1)
      clear HN
      go_wp2
      exact bodyPost_ret (v := .tuple #[.slice none 0 0, .int .i64 5]) (by simp [results, Try.results20, go_sem]) rfl HP.out
    go_wp2_with fail
    refine (HX2.out w1).mono ?_
    rintro e w2 ⟨rfl, hw⟩
    subst hw
    cases n2
    · have HN : Hid (retF l x name fr to = 5) := Lib.hid (HF3.out.trans rfl)
      have HP : Hid (RetPost l x name fr to w (.returned (.tuple #[.slice none 0 0, .int .i64 5])) w1) := Lib.hid (ret_bad HN.out (by decide) hbw1)
      clear HN
      go_wp2
      exact bodyPost_ret (v := .tuple #[.slice none 0 0, .int .i64 5]) (by simp [results, Try.results20, go_sem]) rfl HP.out
    have HF4 : Hid (retF l x name fr to = if withinB fr 0 100000000 = false then 1 else if to ≤ fr then 8 else if 100000000 < to then 1 else 0) := Lib.hid (HF3.out.trans rfl)
    clear HF3 HX1 HX2
    by_cases hr1 : fr < 0
    · have HN : Hid (retF l x name fr to = 1) := Lib.hid (HF4.out.trans (if_pos (show withinB _ _ _ = false from decide_eq_false (by omega))))
      have HP : Hid (RetPost l x name fr to w (.returned (.tuple #[.slice none 0 0, .int .i64 1])) w1) := Lib.hid (ret_bad HN.out (by decide) hbw1)
      clear HN
      go_wp2
      exact bodyPost_ret (v := .tuple #[.slice none 0 0, .int .i64 1]) (by simp [results, Try.results20, go_sem]) rfl HP.out
    have hr1b : decide (fr < 0) = false := decide_eq_false hr1
    by_cases hr2 : 100000000 < fr
    · have HN : Hid (retF l x name fr to = 1) := Lib.hid (HF4.out.trans (if_pos (show withinB _ _ _ = false from decide_eq_false (by omega))))
      have HP : Hid (RetPost l x name fr to w (.returned (.tuple #[.slice none 0 0, .int .i64 1])) w1) := Lib.hid (ret_bad HN.out (by decide) hbw1)
      clear HN
      go_wp2
      exact bodyPost_ret (v := .tuple #[.slice none 0 0, .int .i64 1]) (by simp [results, Try.results20, go_sem]) rfl HP.out
    have hr2b : decide (100000000 < fr) = false := decide_eq_false hr2
    have HF5 : Hid (retF l x name fr to = if to ≤ fr then 8 else if 100000000 < to then 1 else 0) := Lib.hid (HF4.out.trans (if_neg (by unfold withinB; rw [decide_eq_true (show 0 ≤ fr ∧ fr ≤ 100000000 by omega)]; decide)))
    by_cases hr3 : to ≤ fr
    · have HN : Hid (retF l x name fr to = 8) := Lib.hid (HF5.out.trans (if_pos hr3))
      have HP : Hid (RetPost l x name fr to w (.returned (.tuple #[.slice none 0 0, .int .i64 8])) w1) := Lib.hid (ret_bad HN.out (by decide) hbw1)
      clear HN
      go_wp2
      exact bodyPost_ret (v := .tuple #[.slice none 0 0, .int .i64 8]) (by simp [results, Try.results20, go_sem]) rfl HP.out
    have hr3b : decide (to ≤ fr) = false := decide_eq_false hr3
    by_cases hr4 : 100000000 < to
    · have HN : Hid (retF l x name fr to = 1) := Lib.hid (HF5.out.trans ((if_neg hr3).trans (if_pos hr4)))
      have HP : Hid (RetPost l x name fr to w (.returned (.tuple #[.slice none 0 0, .int .i64 1])) w1) := Lib.hid (ret_bad HN.out (by decide) hbw1)
      clear HN
      go_wp2
      exact bodyPost_ret (v := .tuple #[.slice none 0 0, .int .i64 1]) (by simp [results, Try.results20, go_sem]) rfl HP.out
    have hr4b : decide (100000000 < to) = false := decide_eq_false hr4
    have HN : Hid (retF l x name fr to = 0) := Lib.hid (HF5.out.trans ((if_neg hr3).trans (if_neg hr4)))
    have hfr : 0 ≤ fr ∧ fr ≤ 100000000 := by omega
    have hto : 0 ≤ to ∧ to ≤ 100000000 := by omega
    have hl20 := checkL_len HCL.out
    clear HF4 HF5 hr1 hr2 hr3 hr4
    go_wp2_with fail
    refine (refExposed_at l x a c w1 HCL.out (HS.out.ext hbw1)).mono ?_
    rintro e w3 ⟨o, ks, p, q, cS, cq, rfl, ho1, ho2, hR, ⟨hol, _⟩, hb3⟩
    have HR := Lib.hid hR
    have hbw3 := ext_trans hbw1 hb3
    have hoB : w3.ownsRow w.heap.size 32 8 (.slice p o.length cS) o.length (o.flatMap sbL) := own_base' ho1 hbw1.size
    have HTA : Hid (∀ s ∈ o, (0 ≤ s.time ∧ s.time ≤ 4000000000) ∧ CntB 0 s) := Lib.hid (fun s hs => by
      refine ⟨?_, (expR_cnt HR.out s hs).1⟩
      obtain ⟨e, he, h8, _⟩ := expR_from' HR.out s hs
      rw [h8]
      exact checkE_time (checkL_each HCL.out e he))
    have HCN := Lib.hid (counted_at l (checkL_each HCL.out) hl20 o HR.out.1 hol HTA.out name fr to 0 hfr hto (by omega) a p c cS w w3 HS.out hbw3 hoB)
    clear ho1 ho2 hR hb3 hbw1 hoB
    go_wp2_with fail
    refine HCN.out.mono ?_
    rintro e w5 ⟨rfl, hoB5, hbw5, hg5⟩
    obtain ⟨o1, ho1⟩ : ∃ z, o.map (cntX fr to 0 name l) = z := ⟨_, rfl⟩
    have hl1 : o1.length = o.length := by rw [← ho1, List.length_map]
    have HSUB : Hid (o1.map (fun s => { s with sum := 0 }) = o.map (retX fr to name l)) := Lib.hid (by rw [← ho1]; exact rets_are (fun s hs => (expR_cnt HR.out s hs).2.2.1))
    rw [ho1] at hoB5
    have hlo : o.length ≤ 9223372036854775807 := by omega
    clear ho1 hg5 HCN hbw3
    go_wp2
    go_loopw [58] (fun i wr => ∃ k : Nat, k ≤ o.length ∧ i = .int .i64 k ∧ wr.ownsRow w.heap.size 32 8 (.slice p o.length cS) o.length ((mapTo (fun s => { s with sum := 0 }) o1 k).flatMap sbL) ∧ Below w.heap.size w wr) (fun i _ => o.length - (intOf i).toNat)
    case atStart => exact ⟨0, by omega, rfl, by rw [mapTo_zero]; exact hoB5, hbw5⟩
    case round =>
      clear hoB5 hbw5
      obtain ⟨k, hk, rfl, hoU, hbU⟩ := hrel
      by_cases hlt : k < o.length
      · obtain ⟨s, hgk⟩ : ∃ s, o1[k]? = some s := ⟨_, List.getElem?_eq_getElem (by omega)⟩
        obtain ⟨g, cap, hgv, hgB⟩ := own_form hoU (by omega)
        obtain rfl : p = some ⟨g, 0, none⟩ := by injection hgv
        obtain rfl : cS = cap := by injection hgv
        clear hgv
        have hUl : k < (mapTo (fun s => { s with sum := 0 }) o1 k).length := by rw [mapTo_len]; omega
        have hUs := mapTo_same (f := fun s => { s with sum := 0 }) hgk
        have hUf := mapTo_step (f := fun s => { s with sum := 0 }) hgk
        obtain ⟨U, hU⟩ : ∃ z, mapTo (fun s => { s with sum := 0 }) o1 k = z := ⟨_, rfl⟩
        rw [hU] at hoU hUl hUs hUf
        rw [← hUs] at hoU
        have hor : SR wr w.heap.size g cS o.length (U.set k s) := hoU
        obtain ⟨⟨c0, c1, c3, c4, c5, c6⟩, ⟨f3, f4, f5, f6⟩, -, -⟩ := hor.cells hUl
        have hk0 : (0 : Int) ≤ (k : Int) := Int.natCast_nonneg _
        have hk1 : (k : Int) < (o.length : Int) := by omega
        have hoN := hor.put hUl (s' := { s with sum := 0 }) 4 (.int .i64 0) (by decide) rfl
        rw [hUf] at hoN
        have hbN := hbU.setCell (p := ⟨g, k * 8 + 4, none⟩) hgB (.int .i64 0)
        clear hU hUs hUf hoU hor hgk
        go_upto_region 18 with (fail)
        clear c0 c1 c3 c4 c5 c6 f3 f4 f5 f6
        generalize wr.setCell ⟨g, k * 8 + 4, none⟩ (.int .i64 0) = Z at hoN hbN ⊢
        go_wp2
        exact ⟨⟨k + 1, by omega, by go_num, hoN, hbN⟩, by simp [intOf]; omega⟩
      · have hall : mapTo (fun s => { s with sum := 0 }) o1 k = o.map (retX fr to name l) := by rw [mapTo_all (by omega)]; exact HSUB.out
        rw [hall] at hoU
        have HP : Hid (RetPost l x name fr to w (.returned (.tuple #[.slice p o.length cS, .int .i64 0])) wr) := Lib.hid ⟨o.map (retX fr to name l), p, cS, by rw [HN.out, List.length_map], by rw [List.length_map]; exact Sl.ofOwn hoU, by rw [if_pos HN.out]; exact ⟨o, ks, HR.out, rfl⟩, hbU⟩
        clear hoU hbU hall
        go_wp2
        exact bodyPost_ret (v := .tuple #[.slice p o.length cS, .int .i64 0]) (by simp [results, Try.results20, go_sem]) rfl HP.out
  · have hne : (f != 0) = true := by simpa using h0
    have HN : Hid (retF l x name fr to = f) := Lib.hid (HF.out.trans (if_pos h0))
    have HP : Hid (RetPost l x name fr to w (.returned (.tuple #[.slice none 0 0, .int .i64 f])) w1) := Lib.hid (ret_bad HN.out h0 hbw1)
    clear h0 HF
    go_wp2
    exact bodyPost_ret (v := .tuple #[.slice none 0 0, .int .i64 f]) (by simp [results, Try.results20, go_sem]) rfl HP.out
end Ex
end Go.Proofs.Ytacchooggifnhaa
