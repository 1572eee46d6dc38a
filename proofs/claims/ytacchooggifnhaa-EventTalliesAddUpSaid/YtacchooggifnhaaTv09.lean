/- Tallies of package event. Printed by gen_tal.py. -/
import Derived.Test.YtacchooggifnhaaTv03
import Derived.Test.YtacchooggifnhaaTv07
import Derived.Test.YtacchooggifnhaaTv08
namespace Go.Proofs.Ytacchooggifnhaa
open Go.RowKit
namespace Ex
open _root_.Go.Proofs.Ytacchooggifnhaa.Nt (RH RH.cell RH.row RH.row_other RH.lt RH.new RH.ext)
theorem tal_info : (Try.prog.info? 35).map (fun i => (i.zero, i.size, i.bytes)) = some (some (.agg #[.int .i64 0, .slice none 0 0]), 2, 32) := by kernel_rfl
abbrev tlC (p : Int × Value) : Array Value := #[.int .i64 p.1, p.2]
def tlL (p : Int × Value) : List Value := (tlC p).toList
theorem tlL_len (p : Int × Value) : (tlL p).length = 2 := rfl
/-- a new slice of the call's own -/
theorem wpList_make_own {P : Program} {w : World} {ops : Array Oper} {rest : List Oper} {o : Oper} {a : Act} {Q : Exit → Act → World → Prop} (hg : o.guard = none) (l c : Operand) (t : TypeId) (hop : o.op = Op.makeSlice t l c) (base : Nat) (e : TypeId)
    {z : Value} {size bytes : Nat} (ht : P.underlying t = some (.slice e)) (hinfo : (P.info? e).map (fun i => (i.zero, i.size, i.bytes)) = some (some z, size, bytes)) {n : Nat} (hl : a.eval l = .int .i64 (n : Int)) (hc : a.eval c = .int .i64 (n : Int)) (hbytes : bytes * n ≤ 281474976710656) (h63 : n ≤ maxLen) (hbase : base ≤ w.heap.size)
    (h : ∀ W, W.ownsRow base e size (.slice (some ⟨w.heap.size, 0, none⟩) n n) n (madeCells z.cells (n * size)).toList → w.grownBy W none → wpList P ops Q rest (a.put o.dst (.slice (some ⟨w.heap.size, 0, none⟩) n n)) W) : wpList P ops Q (o :: rest) a w := by
  refine wpList_plain hg fun K hK => ?_
  obtain ⟨i, hi, hz0, hz1, hz2⟩ := info_parts hinfo
  obtain ⟨W, hrun, h1, h2⟩ := run_make_full w base t e i z size ht hi hz0 hz1 .i64 .i64 n (by rw [hz2]; exact hbytes) h63 hbase
  unfold Oper.wp
  simp only [execOp, hop, hl, hc, Sem.run_bind, Sem.run_pure, hrun, Result.andThen_ok]
  exact hK _ _ (h W h1 h2)
theorem made_tl (n : Nat) : (madeCells #[Value.int .i64 0, .slice none 0 0] (n * 2)).toList = (List.replicate n ((0 : Int), Value.slice none 0 0)).flatMap tlL := by
  apply List.ext_getElem?
  intro q
  by_cases hq : q < n * 2
  · have e1 := flat_get (f := tlL) (sz := 2) (fun _ => rfl) (List.replicate n ((0 : Int), Value.slice none 0 0)) (q / 2) _ (by rw [List.getElem?_replicate, if_pos (by omega)]) (q % 2)
    rw [show q / 2 * 2 + q % 2 = q by omega] at e1
    rcases (show q % 2 = 0 ∨ q % 2 = 1 by omega) with h | h
    · rw [h] at e1
      rw [e1 _ rfl]; simp [madeCells, hq, h]
    · rw [h] at e1
      rw [e1 _ rfl]; simp [madeCells, hq, h]
  · rw [List.getElem?_eq_none (by simp [size_madeCells]; omega), List.getElem?_eq_none (by rw [flat_length (f := tlL) (sz := 2) (fun _ => rfl)]; simp; omega)]
theorem made_int (n : Nat) : (madeCells #[Value.int .i64 0] (n * 1)).toList = (List.replicate n (0 : Int)).map (Value.int .i64) := by
  apply List.ext_getElem?
  intro q
  by_cases hq : q < n
  · simp [madeCells, hq, Nat.mod_one]
  · rw [List.getElem?_eq_none (by simp [size_madeCells]; omega), List.getElem?_eq_none (by simp; omega)]
theorem fld_time (v0 v2 v3 v4 v5 v6 v7 : Value) (t : Int) (w : World) : (Instr.field 32 (.agg #[v0, .int .i64 t, v2, v3, v4, v5, v6, v7]) 1).run Try.prog w = .ok (.int .i64 t) w := by kernel_rfl
/-- the cell of the row b is written: another own row is as it was -/
theorem own_aside {w : World} {base e size n g : Nat} {v : Value} {xs : List Value} (h : w.ownsRow base e size v n xs) (hne : v.ownBlock ≠ some g) (i : Nat) (x : Value) : (w.setCell ⟨g, i, none⟩ x).ownsRow base e size v n xs := by
  obtain ⟨h1, ⟨rfl, h2⟩ | ⟨g2, cap2, cur, rfl, hb, hg, hn, hm, hs, ht⟩⟩ := h
  · exact ⟨h1, .inl ⟨rfl, h2⟩⟩
  · refine ⟨h1, .inr ⟨g2, cap2, cur, rfl, hb, ?_, hn, hm, hs, ht⟩⟩
    have hgg : g ≠ g2 := fun e9 => hne (by subst e9; rfl)
    simp only [World.setCell, Array.getElem?_modify]
    rw [if_neg hgg]; exact hg
theorem own_asides {base e size n g : Nat} {v : Value} {xs : List Value} (hne : v.ownBlock ≠ some g) : ∀ (vs : List Value) (o : Nat) (w : World), w.ownsRow base e size v n xs → (w.setCells g o vs).ownsRow base e size v n xs
  | [], _, _, h => h
  | x :: r, o, _w, h => own_asides hne r (o + 1) _ (own_aside h hne o x)
theorem rh_keep {w w' : World} {B b : Nat} {A : Array Value} {t : TypeId} (h : RH w b A t) (hb : Below B w w') (hlt : b < B) : RH w' b A t := by unfold RH; rw [hb.block b hlt]; exact h
theorem below_none {B : Nat} {w w' : World} (hg : w.grownBy w' none) (hB : B ≤ w.heap.size) : Below B w w' := (Below.refl B w).grown hg hB (fun q hq => by cases hq)
theorem ne_types {w : World} {base base' e e' size size' n n' g cap : Nat} {v : Value} {xs xs' : List Value} (h : w.ownsRow base e size v n xs) (h' : w.ownsRow base' e' size' (.slice (some ⟨g, 0, none⟩) n' cap) n' xs') (hne : e ≠ e') : v.ownBlock ≠ some g := by
  rcases own_ne_own h h' hne with h1 | h1
  · rw [h1]; simp
  · exact h1
/-- the rows of a table: each a block of its own -/
def Rows (w : World) (B ar : Nat) (bs : List Nat) (R : List (List Int)) : Prop := ∀ (j b : Nat) (r : List Int), bs[j]? = some b → R[j]? = some r → w.ownsRow B 3 1 (.slice (some ⟨b, 0, none⟩) ar ar) ar (r.map (Value.int .i64))
theorem Rows.snoc {w : World} {B ar : Nat} {bs : List Nat} {R : List (List Int)} (h : Rows w B ar bs R) (hl : bs.length = R.length) {b : Nat} {r : List Int} (hb : w.ownsRow B 3 1 (.slice (some ⟨b, 0, none⟩) ar ar) ar (r.map (Value.int .i64))) : Rows w B ar (bs ++ [b]) (R ++ [r]) := by
  intro j b' r' h1 h2
  by_cases hj : j < bs.length
  · rw [List.getElem?_append_left hj] at h1
    rw [List.getElem?_append_left (by omega)] at h2
    exact h j b' r' h1 h2
  · rw [List.getElem?_append_right (by omega)] at h1
    rw [List.getElem?_append_right (by omega)] at h2
    have e1 : j - bs.length = 0 := by
      have := (List.getElem?_eq_some_iff.1 h1).1
      simp at this; omega
    rw [e1] at h1
    rw [show j - R.length = 0 by omega] at h2
    have e2 : b = b' := by simpa using h1
    have e3 : r = r' := by simpa using h2
    subst e2; subst e3; exact hb
theorem Rows.ext {w w' : World} {B ar : Nat} {bs : List Nat} {R : List (List Int)} (h : Rows w B ar bs R) (hb : Below w.heap.size w w') : Rows w' B ar bs R := fun j b r h1 h2 => ownsRow_ext (h j b r h1 h2) hb
theorem Rows.cells {w : World} {B ar : Nat} {bs : List Nat} {R : List (List Int)} (h : Rows w B ar bs R) {base e size n cap g : Nat} {xs : List Value} (hT : w.ownsRow base e size (.slice (some ⟨g, 0, none⟩) n cap) n xs) (hne : 3 ≠ e) (o : Nat) (vs : List Value) : Rows (w.setCells g o vs) B ar bs R :=
  fun j b r h1 h2 => own_asides (ne_types (h j b r h1 h2) hT hne) vs o w (h j b r h1 h2)
theorem nodup_inj {l : List Nat} (h : l.Nodup) {i j b : Nat} (hi : l[i]? = some b) (hj : l[j]? = some b) : i = j := by
  obtain ⟨l1, e1⟩ := List.getElem?_eq_some_iff.1 hi
  obtain ⟨l2, e2⟩ := List.getElem?_eq_some_iff.1 hj
  rcases Nat.lt_trichotomy i j with h1 | h1 | h1
  · exact absurd (e1.trans e2.symm) (List.pairwise_iff_getElem.1 h i j l1 l2 h1)
  · exact h1
  · exact absurd (e2.trans e1.symm) (List.pairwise_iff_getElem.1 h j i l2 l1 h1)
/-- a number of a row is written -/
theorem Rows.set {w : World} {B ar : Nat} {bs : List Nat} {R : List (List Int)} (h : Rows w B ar bs R) (hn : bs.Nodup) {i j b : Nat} {r : List Int} (hb : bs[i]? = some b) (hr : R[i]? = some r) (hj : j < ar) (hl : r.length = ar) (x : Int) : Rows (w.setCell ⟨b, j, none⟩ (.int .i64 x)) B ar bs (R.set i (r.set j x)) := by
  intro q b' r' h1 h2
  have hi : i < R.length := (List.getElem?_eq_some_iff.1 hr).1
  by_cases hq : i = q
  · subst hq
    rw [hb] at h1
    injection h1 with h1
    subst h1
    rw [List.getElem?_set, if_pos rfl, if_pos hi] at h2
    injection h2 with h2
    subst h2
    rw [List.map_set]
    exact own_set (h i b r hb hr) (by rw [List.length_map]; omega) _
  · rw [List.getElem?_set, if_neg hq] at h2
    have hne : b' ≠ b := fun e => by
      subst e
      exact hq (nodup_inj hn hb h1)
    exact own_aside (h q b' r' h1 h2) (by simp only [Value.ownBlock]; intro e; injection e with e; exact hne e) j _
theorem Rows.other {w : World} {B ar : Nat} {bs : List Nat} {R : List (List Int)} {base e size n : Nat} {v : Value} {xs : List Value} (h : Rows w B ar bs R) (hv : w.ownsRow base e size v n xs) (hne : e ≠ 3) {i b : Nat} {r : List Int} (hb : bs[i]? = some b) (hr : R[i]? = some r) (j : Nat) (x : Value) : (w.setCell ⟨b, j, none⟩ x).ownsRow base e size v n xs :=
  own_aside hv (ne_types hv (h i b r hb hr) hne) j x
/-- the days, and the slices of the rows -/
def dayL (lo ar : Nat) (bs : List Nat) : List (Int × Value) := bs.zipIdx.map (fun p => ((lo : Int) + (p.2 : Int), .slice (some ⟨p.1, 0, none⟩) ar ar))
theorem dayL_len (lo ar : Nat) (bs : List Nat) : (dayL lo ar bs).length = bs.length := by simp [dayL]
theorem dayL_snoc (lo ar : Nat) (bs : List Nat) (b : Nat) : dayL lo ar (bs ++ [b]) = dayL lo ar bs ++ [((lo : Int) + (bs.length : Int), .slice (some ⟨b, 0, none⟩) ar ar)] := by
  simp [dayL, List.zipIdx_append]
theorem dayL_get {lo ar : Nat} {bs : List Nat} {i b : Nat} (h : bs[i]? = some b) : (dayL lo ar bs)[i]? = some ((lo : Int) + (i : Int), .slice (some ⟨b, 0, none⟩) ar ar) := by
  simp [dayL, h]
theorem fill_set {α : Type} {A : List α} {z x : α} {k n : Nat} (hA : A.length = k) (hk : k < n) : (A ++ List.replicate (n - k) z).set k x = (A ++ [x]) ++ List.replicate (n - (k + 1)) z := by
  subst hA
  rw [List.set_append_right _ _ (Nat.le_refl _), Nat.sub_self, show n - A.length = (n - (A.length + 1)) + 1 by omega, List.replicate_succ, List.set_cons_zero, List.append_assoc]
  rfl
theorem tl_size (p : Int × Value) : (Try.prog.info? 35).map (·.size) = some (tlC p).size := by
  show (Try.prog.info? 35).map (·.size) = some 2
  kernel_rfl
theorem tl_all (d : Int) (b n c : Nat) : (tlC (d, .slice (some ⟨b, 0, none⟩) n c)).all (·.oneCell') = true := by simp [Value.oneCell']
/-- days and rows of a table, with the blocks of the rows -/
def tlX (rows : List (Int × List Int)) (bs : List Nat) : List (Int × Value) := (rows.zip bs).map (fun p => (p.1.1, .slice (some ⟨p.2, 0, none⟩) p.1.2.length p.1.2.length))
/-- a table in memory -/
def TabAt (w : World) (v : Value) (rows : List (Int × List Int)) : Prop := ∃ bs : List Nat, bs.length = rows.length ∧ Sl w v rows.length ((tlX rows bs).flatMap tlL) ∧
  ∀ (i b : Nat) (r : Int × List Int), bs[i]? = some b → rows[i]? = some r → Sl w (.slice (some ⟨b, 0, none⟩) r.2.length r.2.length) r.2.length (r.2.map (Value.int .i64))
theorem tabAt_nil (w : World) : TabAt w (.slice none 0 0) [] := ⟨[], rfl, Sl.nil _, fun i b r h => by simp at h⟩
theorem talX_row {K : List Sbj} {day : Int} {lo n ar i : Nat} {r : Int × List Int} (h : (talX K day lo n ar)[i]? = some r) : r.2.length = ar ∧ (tabT K day (lo : Int) n ar)[i]? = some r.2 := by
  have e1 : (tabT K day (lo : Int) n ar)[i]? = some r.2 := by rw [← talX_rows, List.getElem?_map, h]; rfl
  refine ⟨?_, e1⟩
  obtain ⟨hi, _⟩ := List.getElem?_eq_some_iff.1 h
  rw [talX_len] at hi
  rw [tabT_get hi] at e1
  injection e1 with e1
  rw [← e1, rowT_len]
theorem tlX_days {K : List Sbj} {day : Int} {lo n ar : Nat} {bs : List Nat} (h : bs.length = n) : tlX (talX K day lo n ar) bs = dayL lo ar bs := by
  apply List.ext_getElem?
  intro i
  by_cases hi : i < n
  · obtain ⟨b, hb⟩ : ∃ b, bs[i]? = some b := ⟨_, List.getElem?_eq_getElem (by omega)⟩
    rw [dayL_get hb]
    have hr : (talX K day lo n ar)[i]? = some ((lo : Int) + (i : Int), rowT K day ((lo : Int) + (i : Int)) ar) := by simp [talX, hi]
    have hz : ((talX K day lo n ar).zip bs)[i]? = some (((lo : Int) + (i : Int), rowT K day ((lo : Int) + (i : Int)) ar), b) := List.getElem?_zip_eq_some.2 ⟨hr, hb⟩
    simp only [tlX, List.getElem?_map, hz, Option.map_some, rowT_len]
  · rw [List.getElem?_eq_none (by simp [tlX, talX_len]; omega), List.getElem?_eq_none (by rw [dayL_len]; omega)]
/-- what Tallies answers -/
def TalIs (x : ByteArray) (l : List Ev) (arms day : Int) (f : Int) (rows : List (Int × List Int)) : Prop :=
  if expF l x ≠ 0 then f = expF l x ∧ rows = [] else if withinB arms 1 20 = false ∨ withinB day 1 100000000 = false then f = 1 ∧ rows = [] else
  ∃ (o : List Sbj) (ks : List ByteArray), ExpR (expX x l).1 (expX x l).2 o ks ∧ TalR (o.filter (keepB arms)) day arms.toNat f rows
def TalPost (x : ByteArray) (l : List Ev) (arms day : Int) (w : World) (e : Ending) (w' : World) : Prop :=
  ∃ (f : Int) (rows : List (Int × List Int)) (b : Option Addr) (d : Nat), e = .returned (.tuple #[.slice b rows.length d, .int .i64 f]) ∧ TabAt w' (.slice b rows.length d) rows ∧ TalIs x l arms day f rows ∧ Below w.heap.size w w'
theorem tal_bad {x : ByteArray} {l : List Ev} {arms day : Int} {w w' : World} {f : Int} (h : TalIs x l arms day f []) (hb : Below w.heap.size w w') : TalPost x l arms day w (.returned (.tuple #[.slice none 0 0, .int .i64 f])) w' :=
  ⟨f, [], none, 0, rfl, tabAt_nil _, h, hb⟩
theorem least_time : ∀ K : List Sbj, K ≠ [] → ∃ m ∈ K, ∀ s ∈ K, m.time ≤ s.time
  | [], h => absurd rfl h
  | [a], _ => ⟨a, List.mem_singleton.2 rfl, fun s hs => by rw [List.mem_singleton.1 hs]; exact Int.le_refl _⟩
  | a :: b :: K, _ => by
    obtain ⟨m, hm, h⟩ := least_time (b :: K) (by simp)
    by_cases hc : a.time ≤ m.time
    · refine ⟨a, List.mem_cons_self, fun s hs => ?_⟩
      rcases List.mem_cons.1 hs with rfl | hs
      · exact Int.le_refl _
      · have := h s hs; omega
    · refine ⟨m, List.mem_cons_of_mem _ hm, fun s hs => ?_⟩
      rcases List.mem_cons.1 hs with rfl | hs
      · omega
      · exact h s hs
theorem most_time : ∀ K : List Sbj, K ≠ [] → ∃ m ∈ K, ∀ s ∈ K, s.time ≤ m.time
  | [], h => absurd rfl h
  | [a], _ => ⟨a, List.mem_singleton.2 rfl, fun s hs => by rw [List.mem_singleton.1 hs]; exact Int.le_refl _⟩
  | a :: b :: K, _ => by
    obtain ⟨m, hm, h⟩ := most_time (b :: K) (by simp)
    by_cases hc : m.time ≤ a.time
    · refine ⟨a, List.mem_cons_self, fun s hs => ?_⟩
      rcases List.mem_cons.1 hs with rfl | hs
      · exact Int.le_refl _
      · have := h s hs; omega
    · refine ⟨m, List.mem_cons_of_mem _ hm, fun s hs => ?_⟩
      rcases List.mem_cons.1 hs with rfl | hs
      · omega
      · exact h s hs
/-- the first time and the last one -/
theorem times_of {K : List Sbj} (h : K ≠ []) (ht : ∀ s ∈ K, 0 ≤ s.time ∧ s.time ≤ 4000000000) {day : Int} (hd : 1 ≤ day) :
    ∃ (tmin tmax : Int) (lo hi : Nat), (0 ≤ tmin ∧ tmin ≤ 4000000000) ∧ (0 ≤ tmax ∧ tmax ≤ 4000000000) ∧ tmin / day = (lo : Int) ∧ tmax / day = (hi : Int) ∧ LoHi K day lo hi ∧ (∀ m ∈ K, (∀ s ∈ K, leX true m.time s.time) → m.time = tmin) ∧ (∀ m ∈ K, (∀ s ∈ K, leX false m.time s.time) → m.time = tmax) ∧ hi ≤ 4000000000 := by
  obtain ⟨m1, hm1, g1⟩ := least_time K h
  obtain ⟨m2, hm2, g2⟩ := most_time K h
  have a1 := ht m1 hm1
  have a2 := ht m2 hm2
  have d1 : 0 ≤ m1.time / day := Int.ediv_nonneg a1.1 (by omega)
  have d2 : 0 ≤ m2.time / day := Int.ediv_nonneg a2.1 (by omega)
  have d3 : m2.time / day ≤ m2.time := Int.ediv_le_self _ a2.1
  refine ⟨m1.time, m2.time, (m1.time / day).toNat, (m2.time / day).toNat, a1, a2, by omega, by omega, ⟨⟨m1, hm1, by omega⟩, ⟨m2, hm2, by omega⟩, fun s hs => ?_⟩, fun m hm hh => ?_, fun m hm hh => ?_, by omega⟩
  · have b1 : m1.time / day ≤ s.time / day := Int.ediv_le_ediv (by omega) (g1 s hs)
    have b2 : s.time / day ≤ m2.time / day := Int.ediv_le_ediv (by omega) (g2 s hs)
    omega
  · have h1 : m.time ≤ m1.time := hh m1 hm1
    have h2 := g1 m hm; omega
  · have h1 : m2.time ≤ m.time := hh m2 hm2
    have h2 := g2 m hm; omega
theorem checkE_arm {e : Ev} (h : checkE e = 0) (hk : e.kind = 1) : 0 ≤ e.arm := by
  unfold checkE at h
  by_cases h1 : nameB e.shard.data.toList = false
  · rw [if_pos h1] at h; cases h
  rw [if_neg h1] at h
  by_cases h2 : withinB e.number 1 1000000000000 = false
  · rw [if_pos h2] at h; cases h
  rw [if_neg h2] at h
  by_cases h3 : withinB e.kind 1 3 = false
  · rw [if_pos h3] at h; cases h
  rw [if_neg h3] at h
  by_cases h4 : withinB e.time 0 4000000000 = false
  · rw [if_pos h4] at h; cases h
  rw [if_neg h4, if_neg (by omega)] at h
  by_cases h5 : keyB e.key.data.toList = false
  · rw [if_pos h5] at h; cases h
  rw [if_neg h5] at h
  by_cases h6 : nameB e.name.data.toList = false
  · rw [if_pos h6] at h; cases h
  rw [if_neg h6, if_pos hk] at h
  by_cases h7 : withinB e.arm 0 19 = false
  · rw [if_pos h7] at h; cases h
  · have : withinB e.arm 0 19 = true := by simpa using h7
    unfold withinB at this
    exact (of_decide_eq_true this).1
/-- subjects are of the log -/
theorem expR_from {x : ByteArray} {l : List Ev} {o : List Sbj} {ks : List ByteArray} (h : ExpR (expX x l).1 (expX x l).2 o ks) : ∀ s ∈ o, ∃ e ∈ l, s.time = e.time ∧ s.arm = e.arm := by
  intro s hs
  obtain ⟨p, hp, _, rfl⟩ := (h.2.1 s).1 hs
  obtain ⟨_, h2, h3⟩ := (first_ok x l).2 p hp
  exact ⟨p.2, h2, rfl, rfl⟩
theorem arms_from {x : ByteArray} {l : List Ev} {o : List Sbj} {ks : List ByteArray} (hc : checkL l = 0) (h : ExpR (expX x l).1 (expX x l).2 o ks) : ∀ s ∈ o, 0 ≤ s.arm := by
  intro s hs
  obtain ⟨p, hp, _, rfl⟩ := (h.2.1 s).1 hs
  obtain ⟨_, h2, h3⟩ := (first_ok x l).2 p hp
  refine checkE_arm (checkL_each hc _ h2) ?_
  unfold isExp at h3
  simp only [Bool.and_eq_true, decide_eq_true_eq] at h3
  exact h3.1
set_option maxRecDepth 100000 in
set_option maxHeartbeats 16000000 in
theorem Tallies_at (l : List Ev) (hok : ∀ e ∈ l, e.ok) (x : ByteArray) (hx : x.size ≤ maxLen) (arms day : Int) (a : Option Addr) (c : Nat) (w : World) (hs : Sl w (.slice a l.length c) l.length (l.flatMap evL)) :
    Calls Try.prog 6 #[.slice a l.length c, .string x, .int .i64 arms, .int .i64 day] w (TalPost x l arms day w) := by
  have hl := hs.len_le
  have HOK := Lib.hid hok
  have HS := Lib.hid hs
  have HX := Lib.hid hx
  clear hok hs hx
  go_enter Try.func6, Try.ntmps6
  go_upto_region 1 with (fail)
  refine wp_rh1 fun W0 hsz0 hb0 hA0 => ?_
  have hlt0 : w.heap.size < W0.heap.size := hA0.lt
  have HL0 := Lib.hid hlt0
  clear hsz0 hlt0
  go_wp2_with fail
  refine (checkExposed_at l HOK.out x HX.out a c W0 (HS.out.ext hb0)).mono ?_
  rintro e w1 ⟨rfl, hb1⟩
  have hbw1 := ext_trans hb0 hb1
  have hA1 := hA0.ext hb1
  obtain ⟨f, hf⟩ : ∃ z, expF l x = z := ⟨_, rfl⟩
  have HFC := Lib.hid hf
  rw [hf]
  clear hf
  have HSZ : Hid (w.heap.size < w1.heap.size) := Lib.hid hA1.lt
  clear hb0 hb1 hA0
  by_cases h0 : f = 0
  · subst h0
    have ca := hA1.cell 0
    obtain ⟨ab, hab⟩ : ∃ z, withinB arms 1 20 = z := ⟨_, rfl⟩
    have HAB := Lib.hid hab
    have HXA := Lib.hid (fun W9 => (by have h9 := event_within arms 1 20 W9; rw [hab] at h9; exact h9 : Calls Try.prog 22 #[.int .i64 arms, .int .i64 1, .int .i64 20] W9 fun e w' => e = .returned (.bool ab) ∧ W9 = w'))
    obtain ⟨db, hdb⟩ : ∃ z, withinB day 1 100000000 = z := ⟨_, rfl⟩
    have HDB := Lib.hid hdb
    have HXD := Lib.hid (fun W9 => (by have h9 := event_within day 1 100000000 W9; rw [hdb] at h9; exact h9 : Calls Try.prog 22 #[.int .i64 day, .int .i64 1, .int .i64 100000000] W9 fun e w' => e = .returned (.bool db) ∧ W9 = w'))
    clear hab hdb
    have ca0 : w1.cell? ⟨w.heap.size, 0, none⟩ = some (.int .i64 arms) := ca
    clear ca
    go_wp2_with fail
    refine (HXA.out w1).mono ?_
    rintro e w2 ⟨rfl, hw⟩
    subst hw
    cases ab
    · have HP : Hid (TalPost x l arms day w (.returned (.tuple #[.slice none 0 0, .int .i64 1])) w1) := Lib.hid (tal_bad (by unfold TalIs; rw [if_neg (by rw [HFC.out]; decide), if_pos (.inl HAB.out)]; exact ⟨rfl, rfl⟩) hbw1)
      clear ca0 hA1
      go_wp2
      exact bodyPost_ret (v := .tuple #[.slice none 0 0, .int .i64 1]) (by simp [results, Try.results6, go_sem]) rfl HP.out
    · go_wp2_with fail
      refine (HXD.out w1).mono ?_
      rintro e w2 ⟨rfl, hw⟩
      subst hw
      cases db
      · have HP : Hid (TalPost x l arms day w (.returned (.tuple #[.slice none 0 0, .int .i64 1])) w1) := Lib.hid (tal_bad (by unfold TalIs; rw [if_neg (by rw [HFC.out]; decide), if_pos (.inr HDB.out)]; exact ⟨rfl, rfl⟩) hbw1)
        clear ca0 hA1
        go_wp2
        exact bodyPost_ret (v := .tuple #[.slice none 0 0, .int .i64 1]) (by simp [results, Try.results6, go_sem]) rfl HP.out
      · have harm : 1 ≤ arms ∧ arms ≤ 20 := of_decide_eq_true HAB.out
        obtain ⟨ar, rfl⟩ : ∃ n : Nat, arms = (n : Int) := ⟨arms.toNat, by omega⟩
        have hday : 1 ≤ day ∧ day ≤ 100000000 := of_decide_eq_true HDB.out
        have HIS : Hid (∀ f rows, (∃ (o : List Sbj) (ks : List ByteArray), ExpR (expX x l).1 (expX x l).2 o ks ∧ TalR (o.filter (keepB (ar : Int))) day ar f rows) → TalIs x l (ar : Int) day f rows) := Lib.hid (fun f rows h => by
          unfold TalIs
          rw [if_neg (by rw [HFC.out]; decide), if_neg (by rw [HAB.out, HDB.out]; simp)]
          exact h)
        have hl20 := checkL_len (expF_ok HFC.out)
        clear HXA HXD HAB HDB
        go_wp2_with fail
        refine (exposed_at l x a c w1 hl20 (HS.out.ext hbw1)).mono ?_
        rintro e w3 ⟨o, ks, p, q, cp, cq, rfl, ho1, ho2, hR, ⟨hol, _⟩, hb3⟩
        have HR := Lib.hid hR
        have hA3 := hA1.ext hb3
        have hbw3 := ext_trans hbw1 hb3
        have HTM : Hid (∀ s ∈ o, 0 ≤ s.time ∧ s.time ≤ 4000000000) := Lib.hid (fun s hs => by
          obtain ⟨e, he, h8, h9⟩ := expR_from hR s hs
          rw [h8]
          exact checkE_time (checkL_each (expF_ok HFC.out) e he))
        have HAM : Hid (∀ s ∈ o, 0 ≤ s.arm) := Lib.hid (arms_from (expF_ok HFC.out) hR)
        clear ho2 hR hbw1 hA1 ca0 HFC
        go_wp2_with fail
        refine (del_at w1.heap.size o hol (ar : Int) w.heap.size _ w3 (hA3.cell 0) HSZ.out hb3.size ho1).mono ?_
        rintro e w4 ⟨hb4, v4, n, rfl, HKL, hoK⟩
        have hA4 : RH w4 w.heap.size #[.int .i64 (ar : Int)] 3 := by unfold RH; rw [hb4.block _ HSZ.out]; exact hA3
        have hbw4 := hbw3.trans (hb4.mono (Nat.le_of_lt HSZ.out))
        have HTK : Hid (∀ s ∈ o.filter (keepB (ar : Int)), (0 ≤ s.time ∧ s.time ≤ 4000000000) ∧ 0 ≤ s.arm ∧ s.arm < (ar : Int)) := Lib.hid (fun s hs => by
          obtain ⟨h8, h9⟩ := List.mem_filter.1 hs
          exact ⟨HTM.out s h8, HAM.out s h8, of_decide_eq_true h9⟩)
        have HIS2 : Hid (∀ f rows, TalR (o.filter (keepB (ar : Int))) day ar f rows → TalIs x l (ar : Int) day f rows) := Lib.hid (fun f rows h => HIS.out f rows ⟨o, ks, HR.out, h⟩)
        have hKlen : n ≤ 20000 := by rw [← HKL.out]; exact Nat.le_trans (List.length_filter_le _ _) hol
        have hs14 : w1.heap.size ≤ w4.heap.size := Nat.le_trans hb3.size hb4.size
        clear hA3 hbw3 hb3 hb4 ho1 HTM HAM HIS HR hol
        obtain ⟨K, hK⟩ : ∃ z, o.filter (keepB (ar : Int)) = z := ⟨_, rfl⟩
        rw [hK] at HKL hoK HTK HIS2
        clear hK
        obtain rfl : K.length = n := HKL.out
        obtain ⟨aK, cK, rfl⟩ : ∃ a9 c9, v4 = .slice a9 K.length c9 := by
          rcases hoK.2 with ⟨rfl, h9⟩ | ⟨g, cap, cur, rfl, _⟩
          · exact ⟨none, 0, by rw [h9]⟩
          · exact ⟨_, _, rfl⟩
        clear HKL
        by_cases hK0 : K.length = 0
        · have HP : Hid (TalPost x l (ar : Int) day w (.returned (.tuple #[.slice none 0 0, .int .i64 0])) w4) := Lib.hid (tal_bad (HIS2.out 0 [] (.inl ⟨List.length_eq_zero_iff.1 hK0, rfl, rfl⟩)) hbw4)
          have hk0 : ((K.length : Int) == 0) = true := by rw [hK0]; rfl
          have hk1 : (K.length : Int) = 0 := by omega
          clear hoK hA4 hbw4
          go_wp2
          exact bodyPost_ret (v := .tuple #[.slice none 0 0, .int .i64 0]) (by simp [results, Try.results6, go_sem]) rfl HP.out
        · have hk0 : ((K.length : Int) == 0) = false := beq_eq_false_iff_ne.2 (by omega)
          have hk1 : ¬ (K.length : Int) = 0 := by omega
          have hkp : 0 < K.length := by omega
          clear hK0
          obtain ⟨g, cap, hgv, hgB⟩ := own_form hoK hkp
          obtain rfl : aK = some ⟨g, 0, none⟩ := by injection hgv
          obtain rfl : cK = cap := by injection hgv
          clear hgv
          obtain ⟨tmin, tmax, lo, hi, htm, htx, hlo, hhi, hLH, hmn, hmx, hhb⟩ := times_of (K := K) (by intro e; rw [e] at hkp; cases hkp) (fun s hs => (HTK.out s hs).1) hday.1
          have HLH := Lib.hid hLH
          have HSK : Hid (Sl w4 (.slice (some ⟨g, 0, none⟩) K.length cK) K.length (K.flatMap sbL)) := Lib.hid (Sl.ofOwn hoK)
          have HMN : Hid (∀ W9, Below w4.heap.size w4 W9 → Calls Try.prog 28 #[.slice (some ⟨g, 0, none⟩) K.length cK, .func (.func 26) #[] #[]] W9 fun e w' => (∃ v0 v2 v3 v4 v5 v6 v7 : Value, e = .returned (.agg #[v0, .int .i64 tmin, v2, v3, v4, v5, v6, v7])) ∧ Below W9.heap.size W9 w') := Lib.hid (fun W9 h9 => (min_at K hkp _ _ W9 (HSK.out.ext h9)).mono (by
            rintro e w' ⟨⟨m, rfl, hm, hh⟩, hb⟩
            exact ⟨⟨_, _, _, _, _, _, _, by rw [← hmn m hm hh]⟩, hb⟩))
          have HMX : Hid (∀ W9, Below w4.heap.size w4 W9 → Calls Try.prog 29 #[.slice (some ⟨g, 0, none⟩) K.length cK, .func (.func 26) #[] #[]] W9 fun e w' => (∃ v0 v2 v3 v4 v5 v6 v7 : Value, e = .returned (.agg #[v0, .int .i64 tmax, v2, v3, v4, v5, v6, v7])) ∧ Below W9.heap.size W9 w') := Lib.hid (fun W9 h9 => (max_at K hkp _ _ W9 (HSK.out.ext h9)).mono (by
            rintro e w' ⟨⟨m, rfl, hm, hh⟩, hb⟩
            exact ⟨⟨_, _, _, _, _, _, _, by rw [← hmx m hm hh]⟩, hb⟩))
          have hd0 : ¬ day = 0 := by omega
          have hdb0 : (day == 0) = false := beq_eq_false_iff_ne.2 hd0
          have ht1 : tmin.tdiv day = (lo : Int) := by rw [Int.tdiv_eq_ediv_of_nonneg htm.1]; exact hlo
          have ht2 : tmax.tdiv day = (hi : Int) := by rw [Int.tdiv_eq_ediv_of_nonneg htx.1]; exact hhi
          have hlh := hLH.le
          have hfld := fld_time
          clear hLH hmn hmx
          go_upto_region 11 with (fail)
          go_region_held3 (fun w' => Below w4.heap.size w4 w') (first | exact (Below.refl _ _).drew | exact ext_trans (by assumption) (by assumption) | assumption) (first | (go_at_call 28; refine (HMN.out _ (by assumption)).mono ?_; rintro e w5 ⟨⟨v0, v2, v3, v4, v5, v6, v7, rfl⟩, hb5⟩) | (go_at_call 29; refine (HMX.out _ (by assumption)).mono ?_; rintro e w6 ⟨⟨z0, z2, z3, z4, z5, z6, z7, rfl⟩, hb6⟩))
          have hb46 : Below w4.heap.size w4 w6 := by assumption
          have hoK6 := ownsRow_ext hoK hb46
          have hA6 := hA4.ext hb46
          have hbw6 := ext_trans hbw4 hb46
          have hs16 : w1.heap.size ≤ w6.heap.size := Nat.le_trans hs14 hb46.size
          clear HMN HMX HSK hb46 hb5 hb6 hoK hA4 hbw4 hs14 hfld ht1 ht2 hlo hhi htm htx hd0 hdb0 hk0 hk1
          obtain ⟨dd, rfl⟩ : ∃ dd, hi = lo + dd := ⟨hi - lo, by omega⟩
          have hwl : IntKind.i64.wrap (lo : Int) = (lo : Int) := by rw [IntKind.wrap_i64]; omega
          have hwh : IntKind.i64.wrap ((lo : Int) + (dd : Int)) = (lo : Int) + (dd : Int) := by rw [IntKind.wrap_i64]; omega
          have hsd : (lo : Int) + (dd : Int) - (lo : Int) = (dd : Int) := by omega
          clear hlh
          by_cases hbig : 20000 < dd + 1
          · have HP : Hid (TalPost x l (ar : Int) day w (.returned (.tuple #[.slice none 0 0, .int .i64 2])) w6) := Lib.hid (tal_bad (HIS2.out 2 [] (.inr ⟨(by intro e; rw [e] at hkp; cases hkp), lo, lo + dd, HLH.out, .inl ⟨by omega, rfl, rfl⟩⟩)) hbw6)
            have hb1 : (20000 : Int) < (dd : Int) + 1 := by omega
            clear hoK6 hA6 hbw6
            go_wp2
            exact bodyPost_ret (v := .tuple #[.slice none 0 0, .int .i64 2]) (by simp [results, Try.results6, go_sem]) rfl HP.out
          · have hb1 : ¬ (20000 : Int) < (dd : Int) + 1 := by omega
            have hb2 : decide ((20000 : Int) < (dd : Int) + 1) = false := decide_eq_false hb1
            go_wp2_with ((with_reducible refine wpList_make_own (n := dd + 1) ?_ (.tmp 66) (.tmp 66) 23 ?_ w1.heap.size 35 Try.underlying23 tal_info ?_ ?_ ?_ ?_ ?_ ?_); rfl; rfl; rfl; rfl; omega; (unfold maxLen; omega); omega; (intro W7 hown7 hg7))
            have hoT7 : W7.ownsRow w1.heap.size 35 2 (.slice (some ⟨w6.heap.size, 0, none⟩) (dd + 1) (dd + 1)) (dd + 1) ((List.replicate (dd + 1) ((0 : Int), Value.slice none 0 0)).flatMap tlL) := by rw [← made_tl]; exact hown7
            have hb67 : Below w6.heap.size w6 W7 := below_none hg7 (Nat.le_refl _)
            have hoK7 := ownsRow_ext hoK6 hb67
            have hA7 := hA6.ext hb67
            have hbw7 := ext_trans hbw6 hb67
            have hs17 : w1.heap.size ≤ W7.heap.size := Nat.le_trans hs16 hb67.size
            obtain ⟨gT, hgT⟩ : ∃ z, w6.heap.size = z := ⟨_, rfl⟩
            have hgT1 : w1.heap.size ≤ gT := by omega
            rw [hgT] at hoT7 ⊢
            clear hb67 hoK6 hA6 hbw6 hs16 hown7 hg7 hgT hb1 hb2 hsd hwh
            go_wp2
            go_loopw [70] (fun i wr => ∃ (k : Nat) (bs : List Nat), k ≤ dd + 1 ∧ i = .int .i64 k ∧ Hid (bs.length = k) ∧ Hid bs.Nodup ∧ Hid (∀ b ∈ bs, w1.heap.size ≤ b ∧ b < wr.heap.size) ∧ Hid (Rows wr w1.heap.size ar bs (List.replicate k (List.replicate ar 0))) ∧ wr.ownsRow w1.heap.size 35 2 (.slice (some ⟨gT, 0, none⟩) (dd + 1) (dd + 1)) (dd + 1) ((dayL lo ar bs ++ List.replicate (dd + 1 - k) ((0 : Int), Value.slice none 0 0)).flatMap tlL) ∧ wr.ownsRow w1.heap.size 32 8 (.slice (some ⟨g, 0, none⟩) K.length cK) K.length (K.flatMap sbL) ∧ RH wr w.heap.size #[.int .i64 (ar : Int)] 3 ∧ Below w.heap.size w wr ∧ w1.heap.size ≤ wr.heap.size) (fun i _ => dd + 1 - (intOf i).toNat)
            case atStart => exact ⟨0, [], by omega, rfl, rfl, Lib.hid (by simp), Lib.hid (fun b h => by simp at h), Lib.hid (fun j b r h => by simp at h), by simpa [dayL] using hoT7, hoK7, hA7, hbw7, hs17⟩
            case round =>
              clear hoT7 hoK7 hA7 hbw7 hs17
              obtain ⟨k, bs, hk, rfl, HBL, HND, HBB, HRW, hoT, hoK, hA, hbr, hsr⟩ := hrel
              by_cases hlt : k < dd + 1
              · have hk0 : (0 : Int) ≤ (k : Int) := Int.natCast_nonneg _
                have hk1 : (k : Int) < (dd : Int) + 1 := by omega
                have ca : wr.cell? ⟨w.heap.size, 0, none⟩ = some (.int .i64 (ar : Int)) := hA.cell 0
                have hnK := own_ne_own hoK hoT (by decide)
                have hTl : ((dayL lo ar bs ++ List.replicate (dd + 1 - k) ((0 : Int), Value.slice none 0 0)).flatMap tlL).length = (dd + 1) * 2 := by
                  rw [flat_length (f := tlL) (sz := 2) (fun _ => rfl), List.length_append, dayL_len, HBL.out, List.length_replicate]; congr 1; omega
                have hwk : IntKind.i64.wrap ((lo : Int) + (k : Int)) = (lo : Int) + (k : Int) := by rw [IntKind.wrap_i64]; omega
                go_wp2_with (first | ((with_reducible refine wpList_make_own (n := ar) ?_ (.tmp 78) (.tmp 78) 33 ?_ w1.heap.size 3 Try.underlying33 intE_info ?_ ?_ ?_ ?_ ?_ ?_); rfl; rfl; rfl; rfl; omega; (unfold maxLen; omega); omega; (intro W8 hown8 hg8; have hth8 : W8.there gT (k * 2) (tlC ((lo : Int) + (k : Int), Value.slice (some ⟨wr.heap.size, 0, none⟩) ar ar)).size := own_there (hoT.kept hg8 (.inr (by simp [Value.ownBlock]))) (by rw [hTl, show (tlC ((lo : Int) + (k : Int), Value.slice (some ⟨wr.heap.size, 0, none⟩) ar ar)).size = 2 from rfl]; omega))) | ((with_reducible refine wpList_store_mid ?_ 35 (.tmp 81) (.tmp 80) ?_ gT (k * 2) (tlC ((lo : Int) + (k : Int), Value.slice (some ⟨wr.heap.size, 0, none⟩) ar ar)) ?_ ?_ hth8 (tl_size _) (tl_all _ _ _ _) ?_); rfl; rfl; rfl; rfl))
                have hb8 : Below wr.heap.size wr W8 := below_none hg8 (Nat.le_refl _)
                have hsz8 : wr.heap.size < W8.heap.size := (hown8.lt _ rfl).2
                have hoT8 := ownsRow_ext hoT hb8
                have hoK8 := ownsRow_ext hoK hb8
                have hA8 := hA.ext hb8
                have hR8 := HRW.out.ext hb8
                have hown9 : W8.ownsRow w1.heap.size 3 1 (.slice (some ⟨wr.heap.size, 0, none⟩) ar ar) ar ((List.replicate ar (0 : Int)).map (Value.int .i64)) := by rw [← made_int]; exact hown8
                have hR9 := (hR8.snoc (by rw [HBL.out, List.length_replicate]) hown9).cells hoT8 (by decide) (k * 2) (tlL ((lo : Int) + (k : Int), Value.slice (some ⟨wr.heap.size, 0, none⟩) ar ar))
                rw [← List.replicate_succ'] at hR9
                have hoT9 := own_put (f := tlL) (sz := 2) tlL_len hoT8 (i := k) (by rw [List.length_append, dayL_len, HBL.out, List.length_replicate]; omega) ((lo : Int) + (k : Int), Value.slice (some ⟨wr.heap.size, 0, none⟩) ar ar)
                rw [fill_set (by rw [dayL_len, HBL.out]) hlt, show dayL lo ar bs ++ [((lo : Int) + (k : Int), Value.slice (some ⟨wr.heap.size, 0, none⟩) ar ar)] = dayL lo ar (bs ++ [wr.heap.size]) by rw [dayL_snoc, HBL.out]] at hoT9
                have hbc := below_cells hgT1 (tlL ((lo : Int) + (k : Int), Value.slice (some ⟨wr.heap.size, 0, none⟩) ar ar)) (k * 2) W8
                have hoK9 := own_asides (ne_types hoK8 hoT8 (by decide)) (tlL ((lo : Int) + (k : Int), Value.slice (some ⟨wr.heap.size, 0, none⟩) ar ar)) (k * 2) W8 hoK8
                have hA9 := rh_keep hA8 hbc HSZ.out
                have hb9 : Below w.heap.size w _ := (hbr.trans (hb8.mono hbr.size)).trans (hbc.mono (Nat.le_of_lt HSZ.out))
                have hs9 := Nat.le_trans (Nat.le_trans hsr hb8.size) hbc.size
                have HND9 : Hid (bs ++ [wr.heap.size]).Nodup := Lib.hid (by
                  rw [List.nodup_append]
                  refine ⟨HND.out, by simp, fun u hu v hv e => ?_⟩
                  have := HBB.out u hu
                  simp at hv; omega)
                have HBB9 : Hid (∀ b ∈ bs ++ [wr.heap.size], w1.heap.size ≤ b ∧ b < (W8.setCells gT (k * 2) (tlL ((lo : Int) + (k : Int), Value.slice (some ⟨wr.heap.size, 0, none⟩) ar ar))).heap.size) := Lib.hid (fun b hb => by
                  have h9 := hbc.size
                  rcases List.mem_append.1 hb with hb | hb
                  · have := HBB.out b hb; omega
                  · simp at hb; omega)
                exact ⟨⟨k + 1, bs ++ [wr.heap.size], by omega, by go_num, Lib.hid (by rw [List.length_append, HBL.out]; rfl), HND9, HBB9, Lib.hid hR9, hoT9, hoK9, hA9, hb9, hs9⟩, by simp [intOf]; omega⟩
              · obtain rfl : k = dd + 1 := by omega
                rw [Nat.sub_self, List.replicate_zero, List.append_nil] at hoT
                have HR0 : Hid (Rows wr w1.heap.size ar bs (tabT (K.take 0) day (lo : Int) (dd + 1) ar)) := Lib.hid (by rw [List.take_zero, tabT_nil]; exact HRW.out)
                clear HRW HBB hA hlt
                go_wp2
                go_loopw [85] (fun i wq => ∃ k : Nat, k ≤ K.length ∧ i = .int .i64 k ∧ Hid (Rows wq w1.heap.size ar bs (tabT (K.take k) day (lo : Int) (dd + 1) ar)) ∧ wq.ownsRow w1.heap.size 35 2 (.slice (some ⟨gT, 0, none⟩) (dd + 1) (dd + 1)) (dd + 1) ((dayL lo ar bs).flatMap tlL) ∧ wq.ownsRow w1.heap.size 32 8 (.slice (some ⟨g, 0, none⟩) K.length cK) K.length (K.flatMap sbL) ∧ Below w.heap.size w wq ∧ w1.heap.size ≤ wq.heap.size) (fun i _ => K.length - (intOf i).toNat)
                case atStart => exact ⟨0, by omega, rfl, HR0, hoT, hoK, hbr, hsr⟩
                case round =>
                  clear HR0 hoT hoK hbr hsr hk
                  obtain ⟨k, hk, rfl, HR, hoT, hoK, hbr, hsr⟩ := hrel
                  by_cases hlt : k < K.length
                  · have hgk := List.getElem?_eq_getElem hlt
                    generalize K[k] = s at hgk
                    have hsK : s ∈ K := List.mem_of_getElem? hgk
                    have hSR : Sl wr (.slice (some ⟨g, 0, none⟩) K.length cK) K.length (K.flatMap sbL) := Sl.ofOwn hoK
                    obtain ⟨b', o', hbo, e0, e1, e2, e3, e4, e5, e6, e7⟩ := sb_cells hSR hgk
                    cases hbo
                    simp only [Nat.zero_add] at e0 e1 e2 e3 e4 e5 e6 e7
                    have hk0 : (0 : Int) ≤ (k : Int) := Int.natCast_nonneg _
                    have hkl : (k : Int) < (K.length : Int) := by omega
                    obtain ⟨⟨hst0, hst1⟩, hsa0, hsa1⟩ := HTK.out s hsK
                    obtain ⟨hd1, hd2⟩ := HLH.out.2.2 s hsK
                    obtain ⟨q, hq⟩ : ∃ q : Nat, s.time / day = (lo : Int) + (q : Int) := ⟨(s.time / day - lo).toNat, by omega⟩
                    obtain ⟨j, hj⟩ : ∃ j : Nat, s.arm = (j : Int) := ⟨s.arm.toNat, by omega⟩
                    have hqd : q < dd + 1 := by omega
                    have hja : j < ar := by omega
                    have HDV : Hid (s.time / day = (lo : Int) + (q : Int)) := Lib.hid hq
                    have htd : s.time.tdiv day = (lo : Int) + (q : Int) := by rw [Int.tdiv_eq_ediv_of_nonneg hst0]; exact hq
                    have HSTEP : Hid (tabT (K.take (k + 1)) day (lo : Int) (dd + 1) ar = (tabT (K.take k) day (lo : Int) (dd + 1) ar).set q ((rowT (K.take k) day ((lo : Int) + (q : Int)) ar).set j ((((K.take k).countP (cntB day ((lo : Int) + (q : Int)) (j : Int)) : Nat) : Int) + 1))) := Lib.hid (by
                      obtain ⟨hk9, rfl⟩ := List.getElem?_eq_some_iff.1 hgk
                      rw [List.take_succ_eq_append_getElem hk9]
                      exact tabT_step hq hqd hj hja)
                    obtain ⟨cn, hcn⟩ : ∃ z, (K.take k).countP (cntB day ((lo : Int) + (q : Int)) (j : Int)) = z := ⟨_, rfl⟩
                    have hcb : cn ≤ 20000 := by
                      have h9 := List.countP_le_length (p := cntB day ((lo : Int) + (q : Int)) (j : Int)) (l := K.take k)
                      rw [hcn, List.length_take] at h9; omega
                    rw [hcn] at HSTEP
                    obtain ⟨b, hb⟩ : ∃ b, bs[q]? = some b := ⟨_, List.getElem?_eq_getElem (by rw [HBL.out]; exact hqd)⟩
                    have HB := Lib.hid hb
                    have HRQ : Hid ((tabT (K.take k) day (lo : Int) (dd + 1) ar)[q]? = some (rowT (K.take k) day ((lo : Int) + (q : Int)) ar)) := Lib.hid (tabT_get hqd)
                    have HRJ : Hid ((rowT (K.take k) day ((lo : Int) + (q : Int)) ar)[j]? = some (cn : Int)) := Lib.hid (by rw [rowT_get hja, hcn])
                    have HJ := Lib.hid hj
                    clear hgk hd1 hd2 hcn hb hSR hq hj
                    go_upto_region 23 with (fail)
                    clear e0 e1 e2 e3 e4 e5 e6 e7
                    refine wp_box1 fun X hszX hbX hX => ?_
                    obtain ⟨g0, g1, g2, g3, g4, g5, g6, g7⟩ := box_sb hX
                    have hRX := HR.out.ext hbX
                    have hoTX := ownsRow_ext hoT hbX
                    have hoKX := ownsRow_ext hoK hbX
                    have hbw := hbr.trans (hbX.mono hbr.size)
                    have hsX := Nat.le_trans hsr hbX.size
                    clear hX hszX hbX HR hoT hoK hbr hsr
                    have c1 : X.cell? ⟨gT, q * 2 + 1, none⟩ = some (.slice (some ⟨b, 0, none⟩) ar ar) := (own_cell hoTX (flat_get (f := tlL) (sz := 2) (fun _ => rfl) _ _ _ (dayL_get HB.out) 1 _ rfl)).1
                    obtain ⟨c2, f2⟩ := own_cell (hRX q b _ HB.out HRQ.out) (i := j) (x := .int .i64 (cn : Int)) (by rw [List.getElem?_map, HRJ.out]; rfl)
                    have hR9 := hRX.set HND.out HB.out HRQ.out hja (rowT_len _ _ _ _) ((cn : Int) + 1)
                    have hoT9 := hRX.other hoTX (by decide) HB.out HRQ.out j (.int .i64 ((cn : Int) + 1))
                    have hoK9 := hRX.other hoKX (by decide) HB.out HRQ.out j (.int .i64 ((cn : Int) + 1))
                    have hbb : w1.heap.size ≤ b := ((hRX q b _ HB.out HRQ.out).lt _ rfl).1
                    have hb9 := hbw.setCell (p := ⟨b, j, none⟩) (Nat.le_trans (Nat.le_of_lt HSZ.out) hbb) (.int .i64 ((cn : Int) + 1))
                    rw [← HSTEP.out] at hR9
                    clear hRX hoTX hoKX hbw
                    have hwq1 : IntKind.i64.wrap ((lo : Int) + (q : Int)) = (lo : Int) + (q : Int) := by rw [IntKind.wrap_i64]; omega
                    have hsq : (lo : Int) + (q : Int) - (lo : Int) = (q : Int) := by omega
                    have hq0 : (0 : Int) ≤ (q : Int) := Int.natCast_nonneg _
                    have hq1 : (q : Int) < (dd : Int) + 1 := by omega
                    have hj0 : (0 : Int) ≤ (j : Int) := Int.natCast_nonneg _
                    have hj1 : (j : Int) < (ar : Int) := by omega
                    have hd0 : ¬ day = 0 := by omega
                    have hdb0 : (day == 0) = false := beq_eq_false_iff_ne.2 hd0
                    rw [HJ.out] at g2
                    go_wp2_with fail
                    go_region
                    clear g0 g1 g2 g3 g4 g5 g6 g7 c1 c2 f2
                    have hRd : Hid (Rows (X.setCell ⟨b, j, none⟩ (.int .i64 ((cn : Int) + 1))).drew w1.heap.size ar bs (tabT (K.take (k + 1)) day (lo : Int) (dd + 1) ar)) := Lib.hid hR9
                    have hoTd : (X.setCell ⟨b, j, none⟩ (.int .i64 ((cn : Int) + 1))).drew.ownsRow w1.heap.size 35 2 (.slice (some ⟨gT, 0, none⟩) (dd + 1) (dd + 1)) (dd + 1) ((dayL lo ar bs).flatMap tlL) := hoT9
                    have hoKd : (X.setCell ⟨b, j, none⟩ (.int .i64 ((cn : Int) + 1))).drew.ownsRow w1.heap.size 32 8 (.slice (some ⟨g, 0, none⟩) K.length cK) K.length (K.flatMap sbL) := hoK9
                    have hbd := hb9.drew
                    have hsd : w1.heap.size ≤ (X.setCell ⟨b, j, none⟩ (.int .i64 ((cn : Int) + 1))).drew.heap.size := Nat.le_trans hsX (by simp [World.setCell, World.drew])
                    clear hR9 hoT9 hoK9 hb9 hsX
                    generalize (X.setCell ⟨b, j, none⟩ (.int .i64 ((cn : Int) + 1))).drew = X9 at hRd hoTd hoKd hbd hsd ⊢
                    go_wp2
                    refine And.intro ?_ (by simp [intOf]; omega)
                    first
                      | exact ⟨k + 1, by omega, by go_num, hRd, hoTd, hoKd, hbd, hsd⟩
                      | (repeat apply Exists.intro
                         refine And.intro ?_ rfl
                         exact ⟨k + 1, by omega, by go_num, hRd, hoTd, hoKd, hbd, hsd⟩)
                  · have hRK : Hid (Rows wr w1.heap.size ar bs (tabT K day (lo : Int) (dd + 1) ar)) := Lib.hid (by have h9 := HR.out; rw [List.take_of_length_le (by omega)] at h9; exact h9)
                    have HP : Hid (TalPost x l (ar : Int) day w (.returned (.tuple #[.slice (some ⟨gT, 0, none⟩) (dd + 1) (dd + 1), .int .i64 0])) wr) := Lib.hid ⟨0, talX K day lo (dd + 1) ar, some ⟨gT, 0, none⟩, dd + 1, by rw [talX_len], ⟨bs, by rw [talX_len]; exact HBL.out, by rw [talX_len, tlX_days HBL.out]; exact Sl.ofOwn hoT, fun i b r h1 h2 => by
                      obtain ⟨hl9, e9⟩ := talX_row h2
                      rw [hl9]
                      exact Sl.ofOwn (hRK.out i b r.2 h1 e9)⟩, HIS2.out 0 _ (.inr ⟨(by intro e; rw [e] at hkp; cases hkp), lo, lo + dd, HLH.out, .inr ⟨by omega, rfl, by rw [show lo + dd - lo + 1 = dd + 1 by omega]⟩⟩), hbr⟩
                    clear HR hoT hoK hbr hRK
                    go_wp2
                    exact bodyPost_ret (v := .tuple #[.slice (some ⟨gT, 0, none⟩) (dd + 1) (dd + 1), .int .i64 0]) (by simp [results, Try.results6, go_sem]) rfl HP.out
  · have hne : (f != 0) = true := by simpa using h0
    have HP : Hid (TalPost x l arms day w (.returned (.tuple #[.slice none 0 0, .int .i64 f])) w1) := Lib.hid (tal_bad (by unfold TalIs; rw [if_pos (by rw [HFC.out]; exact h0), HFC.out]; exact ⟨rfl, rfl⟩) hbw1)
    clear h0 hA1
    go_wp2
    exact bodyPost_ret (v := .tuple #[.slice none 0 0, .int .i64 f]) (by simp [results, Try.results6, go_sem]) rfl HP.out
end Ex
end Go.Proofs.Ytacchooggifnhaa
