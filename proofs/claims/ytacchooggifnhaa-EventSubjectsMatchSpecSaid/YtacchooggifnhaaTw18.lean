/- Exposed of the reference, and the walk of EventSubjectsMatchSpec. Printed by gen_lawsub.py. The frame of every law: a call that returns true, and leaves all that was there as it was, meets the row's post. How the arguments of a law, read as data, lie in memory: slices of whatever elements, field by field. Events and strings that are read as data. Windows that are read as data. Printed by gen_lawsub.py. -/
import Derived.Test.YtacchooggifnhaaTw08
import Derived.Test.YtacchooggifnhaaTw17
import Derived.Test.YtacchooggifnhaaRows
import Derived.WalkKit
import Derived.ProofKit
import Derived.SizedLaws
import Derived.OpenShut
import Derived.JoinedCond
import Derived.Deep.CondSized
import Derived.Test.YtacchooggifnhaaTw00
import Derived.ChangeArms
import Derived.DataReads
import Derived.Test.YtacchooggifnhaaProg
namespace Go.Proofs.Ytacchooggifnhaa
open Go.RowKit
namespace Ex
set_option maxRecDepth 100000 in
set_option maxHeartbeats 16000000 in
theorem refExd_at (l : List Ev) (hok : ∀ e ∈ l, e.ok) (x : ByteArray) (hx : x.size ≤ maxLen) (a : Option Addr) (c : Nat) (w : World) (hs : Sl w (.slice a l.length c) l.length (l.flatMap evL)) :
    Calls Try.prog 14 #[.slice a l.length c, .string x] w (ExdPost x l w) := by
  have HOK := Lib.hid hok
  have HS := Lib.hid hs
  have HX := Lib.hid hx
  clear hok hs hx
  go_enter Try.func14, Try.ntmps14
  go_wp2_with fail
  refine (ref7_CheckLog l HOK.out a c w HS.out).mono ?_
  rintro e w1 ⟨rfl, hb1⟩
  obtain ⟨f, hf⟩ : ∃ z, checkL l = z := ⟨_, rfl⟩
  have HF : Hid (expF l x = if f ≠ 0 then f else if nameB x.data.toList = true then 0 else 5) := Lib.hid (by rw [← hf]; rfl)
  have HCL := Lib.hid hf
  rw [hf]
  clear hf
  by_cases h0 : f = 0
  · subst h0
    obtain ⟨kb, hkb⟩ : ∃ z, nameB x.data.toList = z := ⟨_, rfl⟩
    rw [hkb] at HF
    have HXK := Lib.hid (fun W9 => (by have h9 := ref_IsName x HX.out W9; rw [hkb] at h9; exact h9 : Calls Try.prog 35 #[.string x] W9 fun e w' => e = .returned (.bool kb) ∧ W9 = w'))
    clear hkb
    go_wp2_with fail
    refine (HXK.out w1).mono ?_
    rintro e w2 ⟨rfl, hw⟩
    subst hw
    cases kb
    · have HFC : Hid (expF l x = 5) := Lib.hid (HF.out.trans rfl)
      clear HF HXK
      go_wp2
      exact bodyPost_ret (v := .tuple #[.slice none 0 0, .slice none 0 0, .int .i64 5]) (by simp [results, Try.results14, go_sem]) rfl ⟨[], [], none, none, 0, 0, by rw [HFC.out]; rfl, Sl.nil _, Sl.nil _, by rw [if_neg (by rw [HFC.out]; decide)]; exact ⟨rfl, rfl⟩, ⟨Nat.zero_le _, Nat.zero_le _⟩, hb1⟩
    · have HFC : Hid (expF l x = 0) := Lib.hid (HF.out.trans rfl)
      clear HF HXK
      go_wp2_with fail
      refine (refExposed_at l x a c w1 HCL.out (HS.out.ext hb1)).mono ?_
      rintro e w2 ⟨o, ks, p, q, cp, cq, rfl, ho1, ho2, hR, hll, hb2⟩
      have HS1 := Lib.hid (Sl.ofOwn ho1)
      have HS2 := Lib.hid (Sl.ofOwn ho2)
      have HLL := Lib.hid hll
      have HR := Lib.hid hR
      have hb3 := ext_trans hb1 hb2
      clear ho1 ho2 hll hR hb1 hb2
      go_wp2
      exact bodyPost_ret (v := .tuple #[.slice p o.length cp, .slice q ks.length cq, .int .i64 0]) (by simp [results, Try.results14, go_sem]) rfl ⟨o, ks, p, q, cp, cq, by rw [HFC.out], HS1.out, HS2.out, by rw [if_pos HFC.out]; exact HR.out, HLL.out, hb3⟩
  · have hne : (f != 0) = true := by simpa using h0
    have HFC : Hid (expF l x = f) := Lib.hid (HF.out.trans (if_pos h0))
    have H0 := Lib.hid h0
    clear h0 HF
    go_wp2
    exact bodyPost_ret (v := .tuple #[.slice none 0 0, .slice none 0 0, .int .i64 f]) (by simp [results, Try.results14, go_sem]) rfl ⟨[], [], none, none, 0, 0, by rw [HFC.out]; rfl, Sl.nil _, Sl.nil _, by rw [if_neg (by rw [HFC.out]; exact H0.out)]; exact ⟨rfl, rfl⟩, ⟨Nat.zero_le _, Nat.zero_le _⟩, hb1⟩

theorem sub_unique {l : List Ev} {L : List ByteArray} {x name : ByteArray} {len bf : Int} {R R' : List Sbj}
    (h : if subF l L x name len bf = 0 then ∃ (o : List Sbj) (ks : List ByteArray), ExpR (expX x l).1 (expX x l).2 o ks ∧ R = o.map (subS len bf name (knownR l L) l) else R = [])
    (h' : if subF l L x name len bf = 0 then ∃ (o : List Sbj) (ks : List ByteArray), ExpR (expX x l).1 (expX x l).2 o ks ∧ R' = o.map (subS len bf name (knownR l L) l) else R' = []) : R = R' := by
  by_cases h0 : subF l L x name len bf = 0
  · rw [if_pos h0] at h h'
    obtain ⟨o, ks, a1, a2⟩ := h
    obtain ⟨o', ks', b1, b2⟩ := h'
    obtain ⟨rfl, _⟩ := a1.unique b1
    rw [a2, b2]
  · rw [if_neg h0] at h h'
    rw [h, h']
theorem ret_unique {l : List Ev} {x name : ByteArray} {fr to : Int} {R R' : List Sbj}
    (h : if retF l x name fr to = 0 then ∃ (o : List Sbj) (ks : List ByteArray), ExpR (expX x l).1 (expX x l).2 o ks ∧ R = o.map (retX fr to name l) else R = [])
    (h' : if retF l x name fr to = 0 then ∃ (o : List Sbj) (ks : List ByteArray), ExpR (expX x l).1 (expX x l).2 o ks ∧ R' = o.map (retX fr to name l) else R' = []) : R = R' := by
  by_cases h0 : retF l x name fr to = 0
  · rw [if_pos h0] at h h'
    obtain ⟨o, ks, a1, a2⟩ := h
    obtain ⟨o', ks', b1, b2⟩ := h'
    obtain ⟨rfl, _⟩ := a1.unique b1
    rw [a2, b2]
  · rw [if_neg h0] at h h'
    rw [h, h']
theorem exd_unique {l : List Ev} {x : ByteArray} {o o' : List Sbj} {ks ks' : List ByteArray} (h : if expF l x = 0 then ExpR (expX x l).1 (expX x l).2 o ks else o = [] ∧ ks = []) (h' : if expF l x = 0 then ExpR (expX x l).1 (expX x l).2 o' ks' else o' = [] ∧ ks' = []) : o = o' ∧ ks = ks' := by
  by_cases h0 : expF l x = 0
  · rw [if_pos h0] at h h'
    exact h.unique h'
  · rw [if_neg h0] at h h'
    exact ⟨h.1.trans h'.1.symm, h.2.trans h'.2.symm⟩
set_option maxRecDepth 100000 in
set_option maxHeartbeats 16000000 in
theorem lawSub_at (l : List Ev) (hok : ∀ e ∈ l, e.ok) (L : List ByteArray) (hsz : ∀ s ∈ L, s.size ≤ maxLen) (x : ByteArray) (hx : x.size ≤ maxLen) (name : ByteArray) (hn : name.size ≤ maxLen) (len bf fr to : Int) (a a2 : Option Addr) (c c2 : Nat) (w : World) (hs : Sl w (.slice a l.length c) l.length (l.flatMap evL)) (hs2 : Sl w (.slice a2 L.length c2) L.length (L.map Value.string)) :
    Calls Try.prog 5 #[.slice a l.length c, .slice a2 L.length c2, .string x, .agg #[.string name, .int .i64 len, .int .i64 bf], .int .i64 fr, .int .i64 to] w fun e w' => e = .returned (.bool true) ∧ Below w.heap.size w w' := by
  have HOK := Lib.hid hok
  have HS := Lib.hid hs
  have HS2 := Lib.hid hs2
  have HSZ := Lib.hid hsz
  have HX := Lib.hid hx
  have HNM := Lib.hid hn
  clear hok hs hs2 hsz hx hn
  go_enter Try.func5, Try.ntmps5
  go_upto_region 1 with (fail)
  refine wp_box1 fun W0 hsz0 hb0 hA0 => ?_
  clear hsz0
  obtain ⟨wb, hwb⟩ : ∃ z, w.heap.size = z := ⟨_, rfl⟩
  rw [hwb] at hA0 ⊢
  have HWB := Lib.hid hwb
  clear hwb
  go_wp2_with fail
  refine (Exposed_at l HOK.out x HX.out a c W0 (HS.out.ext hb0)).mono ?_
  rintro e w1 ⟨o, ks, p, q, cp, cq, rfl, hs1, hs2, hR, -, hb1⟩
  have hbw1 := ext_trans hb0 hb1
  have hA1 := hA0.ext hb1
  have HO1 := Lib.hid hs1
  have HK1 := Lib.hid hs2
  have HR1 := Lib.hid hR
  obtain ⟨f, hf⟩ : ∃ z, expF l x = z := ⟨_, rfl⟩
  have HFE := Lib.hid hf
  rw [hf]
  clear hs1 hs2 hR hb0 hb1 hA0 hf
  go_wp2_with fail
  refine (refExd_at l HOK.out x HX.out a c w1 (HS.out.ext hbw1)).mono ?_
  rintro e w2 ⟨o', ks', p', q', cp', cq', rfl, hs1, hs2, hR, -, hb2⟩
  obtain ⟨h1, h2⟩ := exd_unique HR1.out hR
  subst h1
  subst h2
  rw [HFE.out]
  have HO2 := Lib.hid hs1
  have HK2 := Lib.hid hs2
  have HO3 := Lib.hid (HO1.out.ext hb2)
  have HK3 := Lib.hid (HK1.out.ext hb2)
  have hbw2 := ext_trans hbw1 hb2
  have hA2 := hA1.ext hb2
  have hff : (f != f) = false := by simp
  clear hs1 hs2 hR hb2 hbw1 hA1 HO1 HK1 HR1
  go_wp2_with fail
  refine (equal_subjects o p p' cp cp' w2 HO3.out HO2.out).mono ?_
  rintro e w3 ⟨rfl, hb3⟩
  have hbw3 := ext_trans hbw2 hb3
  have hA3 := hA2.ext hb3
  have HK4 := Lib.hid (HK3.out.ext hb3)
  have HK5 := Lib.hid (HK2.out.ext hb3)
  clear hb3 hbw2 hA2 HO2 HO3 HK2 HK3
  go_wp2_with fail
  refine (equal_strs ks q q' cq cq' w3 HK4.out HK5.out).mono ?_
  rintro e w4 ⟨rfl, hb4⟩
  have hbw4 := ext_trans hbw3 hb4
  have hA4 := hA3.ext hb4
  have ca0 : w4.cell? ⟨wb, 0, none⟩ = some (.string name) := hA4.2 0
  have ca1 : w4.cell? ⟨wb, 1, none⟩ = some (.int .i64 len) := hA4.2 1
  have ca2 : w4.cell? ⟨wb, 2, none⟩ = some (.int .i64 bf) := hA4.2 2
  clear hb4 hbw3 hA3 HK4 HK5
  go_wp2_with fail
  refine (Subjects_at l HOK.out L HSZ.out x HX.out name HNM.out len bf a a2 c c2 w4 (HS.out.ext hbw4) (HS2.out.ext hbw4)).mono ?_
  rintro e w5 ⟨R, aR, cR, rfl, hsR, hR, hb5⟩
  have hbw5 := ext_trans hbw4 hb5
  have hA5 := hA4.ext hb5
  have HR5 := Lib.hid hR
  have HO5 := Lib.hid hsR
  obtain ⟨f2, hf2⟩ : ∃ z, subF l L x name len bf = z := ⟨_, rfl⟩
  have HF2 := Lib.hid hf2
  rw [hf2]
  clear ca0 ca1 ca2 hb5 hbw4 hA4 hR hsR hf2
  have ca0 : w5.cell? ⟨wb, 0, none⟩ = some (.string name) := hA5.2 0
  have ca1 : w5.cell? ⟨wb, 1, none⟩ = some (.int .i64 len) := hA5.2 1
  have ca2 : w5.cell? ⟨wb, 2, none⟩ = some (.int .i64 bf) := hA5.2 2
  go_wp2_with fail
  refine (refSubjects_at l HOK.out L HSZ.out x HX.out name HNM.out len bf a a2 c c2 w5 (HS.out.ext hbw5) (HS2.out.ext hbw5)).mono ?_
  rintro e w6 ⟨R', aR', cR', rfl, hsR, hR, hb6⟩
  have h1 := sub_unique HR5.out hR
  subst h1
  rw [HF2.out]
  have HO6 := Lib.hid hsR
  have HO7 := Lib.hid (HO5.out.ext hb6)
  have hbw6 := ext_trans hbw5 hb6
  have hA6 := hA5.ext hb6
  have hff2 : (f2 != f2) = false := by simp
  clear hsR hR hb6 hbw5 hA5 HR5 HO5 ca0 ca1 ca2
  go_wp2_with fail
  refine (equal_subjects R aR aR' cR cR' w6 HO7.out HO6.out).mono ?_
  rintro e w7 ⟨rfl, hb7⟩
  have hbw7 := ext_trans hbw6 hb7
  have hA7 := hA6.ext hb7
  clear hb7 hbw6 hA6 HO6 HO7
  have ca0 : w7.cell? ⟨wb, 0, none⟩ = some (.string name) := hA7.2 0
  go_wp2_with fail
  refine (Returned_at l HOK.out x HX.out name HNM.out fr to a c w7 (HS.out.ext hbw7)).mono ?_
  rintro e w8 ⟨S, aS, cS, rfl, hsS, hS, hb8⟩
  have hbw8 := ext_trans hbw7 hb8
  have hA8 := hA7.ext hb8
  have HR8 := Lib.hid hS
  have HO8 := Lib.hid hsS
  obtain ⟨f3, hf3⟩ : ∃ z, retF l x name fr to = z := ⟨_, rfl⟩
  have HF3 := Lib.hid hf3
  rw [hf3]
  clear ca0 hb8 hbw7 hA7 hS hsS hf3
  have ca0 : w8.cell? ⟨wb, 0, none⟩ = some (.string name) := hA8.2 0
  go_wp2_with fail
  refine (refReturned_at l HOK.out x HX.out name HNM.out fr to a c w8 (HS.out.ext hbw8)).mono ?_
  rintro e w9 ⟨S', aS', cS', rfl, hsS, hS, hb9⟩
  have h1 := ret_unique HR8.out hS
  subst h1
  rw [HF3.out]
  have HO9 := Lib.hid hsS
  have HOA := Lib.hid (HO8.out.ext hb9)
  have hbw9 := ext_trans hbw8 hb9
  have hff3 : (f3 == f3) = true := by simp
  clear hsS hS hb9 hbw8 hA8 HR8 HO8 ca0
  go_wp2_with fail
  refine (equal_subjects S aS aS' cS cS' w9 HOA.out HO9.out).mono ?_
  rintro e wA ⟨rfl, hbA⟩
  have hbwA := ext_trans hbw9 hbA
  clear hbA hbw9 HO9 HOA
  go_wp2
  go_ret
  exact ⟨rfl, hbwA⟩
end Ex
end Go.Proofs.Ytacchooggifnhaa
namespace Go.Proofs.Ytacchooggifnhaa
open Go.ChangeShapes Go.WideShapes Go.ChangeAt Go.RowKit

theorem own : ownKnob Try.prog.godebug = none := by kernel_rfl
theorem laidOut : laidOutB Try.prog = true := by kernel_rfl

theorem trodAll_below {H : Type} {enc : TypeId × Value → H} {P : Program} (hl : laidOutB P = true) {W W' : World} (hb : Below W.heap.size W W') :
    ∀ (ts : List TypeId) (vs : List Value) (ds : List (DataW H)) (ps : List MemPlace), (∀ t ∈ ts, P.readableRec t = true ∧ t < P.types.size) →
      DataW.TrodAll enc P W 0 (fun _ => true) true ts vs ds ps → (∀ x ∈ ps, x.block < W.heap.size) →
      DataW.TrodAll enc P W' 0 (fun b => decide (b < W.heap.size)) true ts vs ds ps
  | [], [], [], ps, _, h, _ => h
  | t :: ts, v :: vs, d :: ds, ps, hr, h, hlt => by
    obtain ⟨p, q, h1, h2, rfl⟩ := h
    refine ⟨p, q, Below.trod hl (hr t (by simp)).1 (hr t (by simp)).2 h1 hb (fun x hx => hlt x (by simp [hx])), ?_, rfl⟩
    exact trodAll_below hl hb ts vs ds q (fun t ht => hr t (by simp [ht])) h2 (fun x hx => hlt x (by simp [hx]))
  | [], [], _ :: _, _, _, h, _ => h.elim
  | [], _ :: _, [], _, _, h, _ => h.elim
  | [], _ :: _, _ :: _, _, _, h, _ => h.elim
  | _ :: _, [], [], _, _, h, _ => h.elim
  | _ :: _, [], _ :: _, _, _, h, _ => h.elim
  | _ :: _, _ :: _, [], _, _, h, _ => h.elim

theorem law_post {H : Type} {enc : TypeId × Value → H} {P : Program} (hl : laidOutB P = true) {f : Func} {s : ChangeSpec} (hv : s.vars = []) {W W' : World} {args : Array Value} {ds gs : List (DataW H)} {before : List MemPlace}
    (hW : DataW.Whole enc P f.params.toList s.vars false W args.toList ds gs before) (hb : Below W.heap.size W W')
    (hr0 : (f.params.toList.all fun t => P.readableRec t && decide (t < P.types.size)) = true) {tb : TypeId} (hres : f.resultTypes = #[tb]) (hub : P.underlying tb = some .bool)
    (hfn : s.fn H (ds ++ gs) = { results := [.lit (.bool true)], args := ds }) : s.post enc P f false true false false W args (.bool true) W' := by
  have hlt := hW.lt
  have hr : ∀ t ∈ f.params.toList, P.readableRec t = true ∧ t < P.types.size := fun t ht => by simpa using List.all_eq_true.1 hr0 t ht
  have hW' := hW
  obtain ⟨p, q, hA, hV, rfl, _, _⟩ := hW
  rw [hv] at hV
  obtain ⟨rfl, rfl⟩ := trodVars_none hV
  refine ⟨ds, [], _, [], p, [], hW', ?_, ?_, ?_, hb.frame _, fun h => by cases h⟩
  · rw [hfn, hres]
    exact trodAll_cons_mk (shut_bool hub true) trodAll_mk0
  · rw [hfn]
    exact trodAll_below hl hb _ _ _ _ hr hA (fun x hx => hlt x (by simp [hx]))
  · rw [hfn, hv]
    rfl
end Go.Proofs.Ytacchooggifnhaa
namespace Go.Proofs.Ytacchooggifnhaa
open Go.RowKit

/-- A list of things, each of which lies in some cells, one behind the other. -/
def Reps {α : Type} (R : α → List Value → Prop) : List α → List Value → Prop
  | [], cs => cs = []
  | x :: xs, cs => ∃ c r, cs = c ++ r ∧ R x c ∧ Reps R xs r

theorem Reps.mono {α : Type} {R R' : α → List Value → Prop} (h : ∀ x c, R x c → R' x c) : ∀ {l : List α} {cs : List Value}, Reps R l cs → Reps R' l cs
  | [], _, hr => hr
  | _ :: _, _, ⟨c, r, e, h1, h2⟩ => ⟨c, r, e, h _ _ h1, Reps.mono h h2⟩
theorem Reps.length {α : Type} {R : α → List Value → Prop} {sz : Nat} (hs : ∀ x c, R x c → c.length = sz) : ∀ {l : List α} {cs : List Value}, Reps R l cs → cs.length = l.length * sz
  | [], _, hr => by cases hr; simp
  | _ :: l, _, ⟨c, r, e, h1, h2⟩ => by
    subst e
    rw [List.length_append, hs _ _ h1, Reps.length hs h2, List.length_cons, Nat.add_mul]
    omega
theorem Reps.get {α : Type} {R : α → List Value → Prop} {sz : Nat} (hs : ∀ x c, R x c → c.length = sz) : ∀ {l : List α} {cs : List Value} {i : Nat} {x : α}, Reps R l cs → l[i]? = some x → ∃ c, R x c ∧ ∀ j u, c[j]? = some u → cs[i * sz + j]? = some u
  | [], _, _, _, _, hx => by simp at hx
  | y :: l, cs, 0, x, h, hx => by
    obtain ⟨c, r, rfl, h1, h2⟩ := h
    obtain rfl : y = x := by simpa using hx
    refine ⟨c, h1, fun j u hu => ?_⟩
    rw [Nat.zero_mul, Nat.zero_add, List.getElem?_append_left (List.getElem?_eq_some_iff.1 hu).1]; exact hu
  | y :: l, cs, i + 1, x, h, hx => by
    obtain ⟨c, r, rfl, h1, h2⟩ := h
    obtain ⟨c', h3, h4⟩ := Reps.get hs h2 (by simpa using hx)
    refine ⟨c', h3, fun j u hu => ?_⟩
    have hl := hs _ _ h1
    have e : (i + 1) * sz + j = c.length + (i * sz + j) := by rw [hl, Nat.add_mul]; omega
    rw [e, List.getElem?_append_right (by omega), ← h4 j u hu]
    congr 1; omega

theorem addr_of_cell {w : World} {a : Addr} {v : Value} (h : w.cell? a = some v) : a = ⟨a.block, a.off, none⟩ := by
  cases a with | mk b o s =>
  cases s with
  | none => rfl
  | some k =>
    exfalso
    unfold World.cell? at h
    simp only at h
    split at h <;> simp at h

theorem add_add_none (b o i j : Nat) : ((⟨b, o, none⟩ : Addr).add i).add j = ⟨b, o + (i + j), none⟩ := by
  rw [add_spot, add_spot, Nat.add_assoc]

/-- The elements of a slice that is read, one after the other, out of a reading of each. -/
theorem elems_reps {α : Type} {R : α → List Value → Prop} {sz : Nat} (hs : ∀ x c, R x c → c.length = sz) (f : Nat → List Value) :
    ∀ (n : Nat), (∀ i, i < n → ∃ x, R x (f i)) → ∃ l : List α, l.length = n ∧ Reps R l ((List.range n).flatMap f) ∧ ∀ i, i < n → ∀ j u, (f i)[j]? = some u → ((List.range n).flatMap f)[i * sz + j]? = some u
  | 0, _ => ⟨[], rfl, rfl, fun i h => by omega⟩
  | n + 1, h => by
    obtain ⟨l, hl, hr, hg⟩ := elems_reps hs f n (fun i hi => h i (by omega))
    obtain ⟨x, hx⟩ := h n (by omega)
    have hlen := Reps.length hs hr
    have happ : ∀ {l : List α} {cs : List Value}, Reps R l cs → Reps R (l ++ [x]) (cs ++ f n) := by
      intro l
      induction l with
      | nil => intro cs hc; cases hc; exact ⟨f n, [], by simp, hx, rfl⟩
      | cons y l ih =>
        rintro cs ⟨c, r, rfl, h1, h2⟩
        exact ⟨c, r ++ f n, by simp, h1, ih h2⟩
    have hfm : (List.range (n + 1)).flatMap f = (List.range n).flatMap f ++ f n := by
      rw [List.range_succ, List.flatMap_append]; simp
    refine ⟨l ++ [x], by simp [hl], by rw [hfm]; exact happ hr, fun i hi j u hu => ?_⟩
    rw [hfm]
    by_cases hin : i < n
    · have := hg i hin j u hu
      rw [List.getElem?_append_left (List.getElem?_eq_some_iff.1 this).1]; exact this
    · have : i = n := by omega
      subst this
      rw [hl] at hlen
      rw [List.getElem?_append_right (by omega), ← hu]
      congr 1; omega

/-- A slice that is read as data, out of how its elements are read. -/
theorem read_slice {H : Type} {enc : TypeId × Value → H} {P : Program} {W : World} {spare : Nat → Bool} {held : Bool} {α : Type} {R : α → List Value → Prop} {sz : Nat} (hs : ∀ x c, R x c → c.length = sz)
    {t e : TypeId} {fuel : Nat} {cs : List Value} {x : DataW H × List MemPlace} (ht : P.underlying t = some (.slice e)) (hC : P.cellsOf e = sz) (hsz : 0 < sz)
    (hel : ∀ n cs' y, n < fuel → DataW.trod enc P W 0 spare held n e cs' = some y → ∃ a, R a cs')
    (h : DataW.trod enc P W 0 spare held fuel t cs = some x) : ∃ (a : Option Addr) (l : List α) (cap : Nat) (cells : List Value), cs = [.slice a l.length cap] ∧ Sl W (.slice a l.length cap) l.length cells ∧ Reps R l cells := by
  rcases DataW.trod_slice ht h with ⟨rfl, _⟩ | ⟨a, len, cap, elems, rest, n, hn, rfl, hx, hb, hl, hm, hlen, hel', _⟩
  · exact ⟨none, [], 0, [], rfl, Sl.nil W, rfl⟩
  · rw [hC] at hel'
    have hget : ∀ i, i < len → ∃ c, (∀ j u, c[j]? = some u → W.cell? ((a.add (i * sz)).add j) = some u) ∧ ∃ y, R y c := by
      intro i hi
      have h1 := hel' i hi
      have hi' : i < elems.length := by omega
      rw [List.getElem?_eq_getElem hi'] at h1
      obtain ⟨c, hc, htr⟩ := Option.bind_eq_some_iff.1 h1
      obtain ⟨_, hcl, hat⟩ := World.cells?_some hc
      refine ⟨c, fun j u hu => ?_, hel n c _ (by omega) htr⟩
      rw [hat j (by have := (List.getElem?_eq_some_iff.1 hu).1; omega)]; exact hu
    have hget' : ∀ i, ∃ c, i < len → (∀ j u, c[j]? = some u → W.cell? ((a.add (i * sz)).add j) = some u) ∧ ∃ y, R y c := by
      intro i
      by_cases hi : i < len
      · obtain ⟨c, hc⟩ := hget i hi; exact ⟨c, fun _ => hc⟩
      · exact ⟨[], fun h => (hi h).elim⟩
    obtain ⟨f, hf⟩ := Classical.axiomOfChoice hget'
    obtain ⟨l, hll, hr, hg⟩ := elems_reps hs f len (fun i hi => (hf i hi).2)
    refine ⟨some a, l, cap, _, by rw [hll], ⟨_, _, rfl, by omega, hm, (fun h => by cases h), fun i u hu => ?_⟩, hr⟩
    have hrl := Reps.length hs hr
    have hi : i < len * sz := by have := (List.getElem?_eq_some_iff.1 hu).1; rw [hll] at hrl; omega
    have hid : i / sz < len := Nat.div_lt_of_lt_mul (by rw [Nat.mul_comm]; exact hi)
    obtain ⟨y, hy⟩ := (hf _ hid).2
    have hfl := hs _ _ hy
    have hj : i % sz < (f (i / sz)).length := by rw [hfl]; exact Nat.mod_lt _ hsz
    have h2 := hg _ hid _ _ (List.getElem?_eq_getElem hj)
    rw [Nat.div_add_mod' i sz, hu] at h2
    have hcell := (hf _ hid).1 _ _ (List.getElem?_eq_getElem hj)
    have h0 : 0 < len := Nat.lt_of_le_of_lt (Nat.zero_le _) hid
    obtain ⟨y0, hy0⟩ := (hf 0 h0).2
    have hj0 : 0 < (f 0).length := by rw [hs _ _ hy0]; exact hsz
    have hc0 := (hf 0 h0).1 _ _ (List.getElem?_eq_getElem hj0)
    rw [Nat.zero_mul] at hc0
    have ha : a = ⟨a.block, a.off, none⟩ := by
      have e : (a.add 0).add 0 = a := by simp [Addr.add]
      rw [e] at hc0
      exact addr_of_cell hc0
    refine ⟨a.block, a.off, by rw [← ha], ?_⟩
    rw [ha, add_add_none, Nat.div_add_mod' i sz] at hcell
    rw [hcell, Option.some.inj h2]

/-- A value of more cells than one is an aggregate of them. -/
theorem agg_of_cells {v : Value} (h : v.cells.toList.length ≠ 1) : v = .agg v.cells.toList.toArray := by
  cases v <;> simp_all [Value.cells]
theorem i64ok_of {n : Int} (h : (Lit.int .i64 n).wf = true) : i64ok n := by
  simpa [Lit.wf, IntKind.min, IntKind.max, IntKind.signed, IntKind.bits, i64ok] using h
theorem uncons {l : List Value} {n : Nat} (h : l.length = n + 1) : ∃ c r, l = c :: r ∧ r.length = n := by
  cases l with
  | nil => cases h
  | cons c r => exact ⟨c, r, rfl, by simpa using h⟩
end Go.Proofs.Ytacchooggifnhaa
namespace Go.Proofs.Ytacchooggifnhaa
open Go.RowKit
theorem read_Event {H : Type} {enc : TypeId × Value → H} {W : World} {spare : Nat → Bool} {held : Bool} (fuel : Nat) (cs : List Value) (x : DataW H × List MemPlace) (h : DataW.trod enc Try.prog W 0 spare held fuel 42 cs = some x) :
    ∃ (x0 : ByteArray) (x1 : Int) (x2 : Int) (x3 : Int) (x4 : ByteArray) (x5 : ByteArray) (x6 : Int) (x7 : Int), cs = [.string x0, .int .i64 x1, .int .i64 x2, .int .i64 x3, .string x4, .string x5, .int .i64 x6, .int .i64 x7] ∧ x0.size ≤ maxLen ∧ i64ok x1 ∧ i64ok x2 ∧ i64ok x3 ∧ x4.size ≤ maxLen ∧ x5.size ≤ maxLen ∧ i64ok x6 ∧ i64ok x7 := by
  obtain ⟨xs, n, rfl, _, hlen, hxl, hf⟩ := DataW.trod_struct Try.underlying42 h
  rw [show Try.prog.cellsOf 42 = 8 by kernel_rfl] at hlen
  obtain ⟨c0, r0, rfl, l0⟩ := uncons hlen
  obtain ⟨c1, r1, rfl, l1⟩ := uncons l0
  obtain ⟨c2, r2, rfl, l2⟩ := uncons l1
  obtain ⟨c3, r3, rfl, l3⟩ := uncons l2
  obtain ⟨c4, r4, rfl, l4⟩ := uncons l3
  obtain ⟨c5, r5, rfl, l5⟩ := uncons l4
  obtain ⟨c6, r6, rfl, l6⟩ := uncons l5
  obtain ⟨c7, r7, rfl, l7⟩ := uncons l6
  obtain rfl := List.length_eq_zero_iff.1 l7
  have hx : ∀ i, i < 8 → ∃ y, xs[i]? = some y := fun i hi => ⟨_, List.getElem?_eq_getElem (by rw [hxl]; exact hi)⟩
  have f0 : DataW.trod enc Try.prog W 0 spare held n 9 (List.take (Try.prog.cellsOf 9) (List.drop 0 [c0, c1, c2, c3, c4, c5, c6, c7])) = xs[0]? := hf 0 _ rfl
  rw [show Try.prog.cellsOf 9 = 1 by kernel_rfl] at f0
  simp only [List.drop, List.take] at f0
  obtain ⟨y0, e0⟩ := hx 0 (by omega)
  rw [e0] at f0
  obtain ⟨x0, h0, _, w0⟩ := DataW.trod_string Try.underlying9 f0
  have f1 : DataW.trod enc Try.prog W 0 spare held n 3 (List.take (Try.prog.cellsOf 3) (List.drop 1 [c0, c1, c2, c3, c4, c5, c6, c7])) = xs[1]? := hf 1 _ rfl
  rw [show Try.prog.cellsOf 3 = 1 by kernel_rfl] at f1
  simp only [List.drop, List.take] at f1
  obtain ⟨y1, e1⟩ := hx 1 (by omega)
  rw [e1] at f1
  obtain ⟨x1, h1, _, w1⟩ := DataW.trod_int Try.underlying3 f1
  have f2 : DataW.trod enc Try.prog W 0 spare held n 3 (List.take (Try.prog.cellsOf 3) (List.drop 2 [c0, c1, c2, c3, c4, c5, c6, c7])) = xs[2]? := hf 2 _ rfl
  rw [show Try.prog.cellsOf 3 = 1 by kernel_rfl] at f2
  simp only [List.drop, List.take] at f2
  obtain ⟨y2, e2⟩ := hx 2 (by omega)
  rw [e2] at f2
  obtain ⟨x2, h2, _, w2⟩ := DataW.trod_int Try.underlying3 f2
  have f3 : DataW.trod enc Try.prog W 0 spare held n 3 (List.take (Try.prog.cellsOf 3) (List.drop 3 [c0, c1, c2, c3, c4, c5, c6, c7])) = xs[3]? := hf 3 _ rfl
  rw [show Try.prog.cellsOf 3 = 1 by kernel_rfl] at f3
  simp only [List.drop, List.take] at f3
  obtain ⟨y3, e3⟩ := hx 3 (by omega)
  rw [e3] at f3
  obtain ⟨x3, h3, _, w3⟩ := DataW.trod_int Try.underlying3 f3
  have f4 : DataW.trod enc Try.prog W 0 spare held n 9 (List.take (Try.prog.cellsOf 9) (List.drop 4 [c0, c1, c2, c3, c4, c5, c6, c7])) = xs[4]? := hf 4 _ rfl
  rw [show Try.prog.cellsOf 9 = 1 by kernel_rfl] at f4
  simp only [List.drop, List.take] at f4
  obtain ⟨y4, e4⟩ := hx 4 (by omega)
  rw [e4] at f4
  obtain ⟨x4, h4, _, w4⟩ := DataW.trod_string Try.underlying9 f4
  have f5 : DataW.trod enc Try.prog W 0 spare held n 9 (List.take (Try.prog.cellsOf 9) (List.drop 5 [c0, c1, c2, c3, c4, c5, c6, c7])) = xs[5]? := hf 5 _ rfl
  rw [show Try.prog.cellsOf 9 = 1 by kernel_rfl] at f5
  simp only [List.drop, List.take] at f5
  obtain ⟨y5, e5⟩ := hx 5 (by omega)
  rw [e5] at f5
  obtain ⟨x5, h5, _, w5⟩ := DataW.trod_string Try.underlying9 f5
  have f6 : DataW.trod enc Try.prog W 0 spare held n 3 (List.take (Try.prog.cellsOf 3) (List.drop 6 [c0, c1, c2, c3, c4, c5, c6, c7])) = xs[6]? := hf 6 _ rfl
  rw [show Try.prog.cellsOf 3 = 1 by kernel_rfl] at f6
  simp only [List.drop, List.take] at f6
  obtain ⟨y6, e6⟩ := hx 6 (by omega)
  rw [e6] at f6
  obtain ⟨x6, h6, _, w6⟩ := DataW.trod_int Try.underlying3 f6
  have f7 : DataW.trod enc Try.prog W 0 spare held n 3 (List.take (Try.prog.cellsOf 3) (List.drop 7 [c0, c1, c2, c3, c4, c5, c6, c7])) = xs[7]? := hf 7 _ rfl
  rw [show Try.prog.cellsOf 3 = 1 by kernel_rfl] at f7
  simp only [List.drop, List.take] at f7
  obtain ⟨y7, e7⟩ := hx 7 (by omega)
  rw [e7] at f7
  obtain ⟨x7, h7, _, w7⟩ := DataW.trod_int Try.underlying3 f7
  cases h0
  cases h1
  cases h2
  cases h3
  cases h4
  cases h5
  cases h6
  cases h7
  exact ⟨x0, x1, x2, x3, x4, x5, x6, x7, rfl, w0, i64ok_of w1, i64ok_of w2, i64ok_of w3, w4, w5, i64ok_of w6, i64ok_of w7⟩
end Go.Proofs.Ytacchooggifnhaa
namespace Go.Proofs.Ytacchooggifnhaa
open Go.RowKit
theorem read_Window {H : Type} {enc : TypeId × Value → H} {W : World} {spare : Nat → Bool} {held : Bool} (fuel : Nat) (cs : List Value) (x : DataW H × List MemPlace) (h : DataW.trod enc Try.prog W 0 spare held fuel 48 cs = some x) :
    ∃ (x0 : ByteArray) (x1 : Int) (x2 : Int), cs = [.string x0, .int .i64 x1, .int .i64 x2] ∧ x0.size ≤ maxLen ∧ i64ok x1 ∧ i64ok x2 := by
  obtain ⟨xs, n, rfl, _, hlen, hxl, hf⟩ := DataW.trod_struct Try.underlying48 h
  rw [show Try.prog.cellsOf 48 = 3 by kernel_rfl] at hlen
  obtain ⟨c0, r0, rfl, l0⟩ := uncons hlen
  obtain ⟨c1, r1, rfl, l1⟩ := uncons l0
  obtain ⟨c2, r2, rfl, l2⟩ := uncons l1
  obtain rfl := List.length_eq_zero_iff.1 l2
  have hx : ∀ i, i < 3 → ∃ y, xs[i]? = some y := fun i hi => ⟨_, List.getElem?_eq_getElem (by rw [hxl]; exact hi)⟩
  have f0 : DataW.trod enc Try.prog W 0 spare held n 9 (List.take (Try.prog.cellsOf 9) (List.drop 0 [c0, c1, c2])) = xs[0]? := hf 0 _ rfl
  rw [show Try.prog.cellsOf 9 = 1 by kernel_rfl] at f0
  simp only [List.drop, List.take] at f0
  obtain ⟨y0, e0⟩ := hx 0 (by omega)
  rw [e0] at f0
  obtain ⟨x0, h0, _, w0⟩ := DataW.trod_string Try.underlying9 f0
  have f1 : DataW.trod enc Try.prog W 0 spare held n 3 (List.take (Try.prog.cellsOf 3) (List.drop 1 [c0, c1, c2])) = xs[1]? := hf 1 _ rfl
  rw [show Try.prog.cellsOf 3 = 1 by kernel_rfl] at f1
  simp only [List.drop, List.take] at f1
  obtain ⟨y1, e1⟩ := hx 1 (by omega)
  rw [e1] at f1
  obtain ⟨x1, h1, _, w1⟩ := DataW.trod_int Try.underlying3 f1
  have f2 : DataW.trod enc Try.prog W 0 spare held n 3 (List.take (Try.prog.cellsOf 3) (List.drop 2 [c0, c1, c2])) = xs[2]? := hf 2 _ rfl
  rw [show Try.prog.cellsOf 3 = 1 by kernel_rfl] at f2
  simp only [List.drop, List.take] at f2
  obtain ⟨y2, e2⟩ := hx 2 (by omega)
  rw [e2] at f2
  obtain ⟨x2, h2, _, w2⟩ := DataW.trod_int Try.underlying3 f2
  cases h0
  cases h1
  cases h2
  exact ⟨x0, x1, x2, rfl, w0, i64ok_of w1, i64ok_of w2⟩
end Go.Proofs.Ytacchooggifnhaa
