/- A verdict other than to wait stays as it is when more trials come: the walk. (Several texts in one: VerdLaw, LawVerdW.) -/
import Derived.Test.YtkinapdfmgfdfaaVerdA
import Derived.Test.YtkinapdfmgfdfaaDecLaw
import Derived.Test.YtkinapdfmgfdfaaAwake9
namespace Go.Proofs.Ytkinapdfmgfdfaa
namespace Nm
/-- each guard's trials with those that came -/
def mixL : List (List Tri) → List (List Tri) → List (List Tri)
  | [], _ => []
  | l :: g, [] => l :: mixL g []
  | l :: g, o :: r => (l ++ o) :: mixL g r
def othersAt (others : List (List Tri)) (i : Nat) : List Tri := (others[i]?).getD []
theorem mixL_nil : ∀ g, mixL g [] = g
  | [] => rfl
  | l :: g => by rw [mixL, mixL_nil g]
theorem mixL_get : ∀ (g o : List (List Tri)) (i : Nat) (l : List Tri), g[i]? = some l → (mixL g o)[i]? = some (l ++ othersAt o i)
  | [], _, _, _, h => by simp at h
  | x :: g, [], i, l, h => by rw [mixL_nil, h]; simp [othersAt]
  | x :: g, y :: o, 0, l, h => by
    obtain rfl : x = l := by simpa using h
    simp [mixL, othersAt]
  | x :: g, y :: o, i + 1, l, h => by
    have := mixL_get g o i l (by simpa using h)
    simp only [mixL, List.getElem?_cons_succ, this]
    simp [othersAt]
theorem mixL_length : ∀ (g o : List (List Tri)), (mixL g o).length = g.length
  | [], _ => rfl
  | _ :: g, [] => by rw [mixL_nil]
  | _ :: g, _ :: o => by simp [mixL, mixL_length g o]
/-- lists of which each begins with one of others -/
inductive Exts : List (List Int) → List (List Int) → Prop
  | nil : Exts [] []
  | cons (z r : List Int) {zs zs' : List (List Int)} (h : Exts zs zs') : Exts (z :: zs) ((z ++ r) :: zs')
theorem exts_mix : ∀ (g o : List (List Tri)), Exts (g.map pairZ) ((mixL g o).map pairZ)
  | [], _ => .nil
  | l :: g, [] => by
    simp only [mixL, List.map_cons]
    have := Exts.cons (pairZ l) [] (exts_mix g [])
    rwa [List.append_nil] at this
  | l :: g, x :: o => by
    simp only [mixL, List.map_cons]
    obtain ⟨r, hr⟩ := pairZ_more l x
    rw [hr]
    exact .cons _ _ (exts_mix g o)
theorem minN_mono : ∀ (zs : List (List Int)) (m n : Nat), m ≤ n → minN m zs ≤ minN n zs
  | [], _, _, h => h
  | z :: r, m, n, h => by
    simp only [minN]
    exact minN_mono r _ _ (by omega)
theorem minN_ext {zs zs' : List (List Int)} (h : Exts zs zs') : ∀ n, minN n zs ≤ minN n zs' := by
  induction h with
  | nil => intro n; exact Nat.le_refl _
  | cons z r h ih =>
    intro n
    simp only [minN]
    exact Nat.le_trans (minN_mono _ _ _ (by rw [List.length_append]; omega)) (ih _)
/-- what is decided by N pairs stays, what is not is decided later, if at all -/
def Rel (N h h' : Nat) : Prop := (h ≠ 0 → h' = h ∧ h ≤ N) ∧ (h = 0 → h' = 0 ∨ N < h')
theorem rel_dec (dec : Nat → Nat → Bool) {z r : List Int} {N N' : Nat} (h1 : N ≤ z.length) (h2 : N ≤ N') : Rel N (decAt dec 0 0 0 (z.take N)) (decAt dec 0 0 0 ((z ++ r).take N')) := by
  have e : ∃ s, (z ++ r).take N' = z.take N ++ s := by
    refine ⟨((z ++ r).take N').drop N, ?_⟩
    conv => lhs; rw [← List.take_append_drop N ((z ++ r).take N')]
    congr 1
    rw [List.take_take, Nat.min_eq_left h2, List.take_append_of_le_length h1]
  obtain ⟨s, hs⟩ := e
  rw [hs]
  obtain ⟨m1, m2⟩ := decAt_more dec (z.take N) s 0 0 0
  have hl : (z.take N).length = N := by rw [List.length_take]; omega
  refine ⟨fun h => ⟨m1 h, ?_⟩, fun h => ?_⟩
  · rcases decAt_range dec (z.take N) 0 0 0 with h3 | h3
    · exact absurd h3 h
    · omega
  · have := m2 h
    rw [hl, Nat.zero_add] at this
    exact this
theorem rel_step {N s s' h h' : Nat} (a : Rel N s s') (b : Rel N h h') : Rel N (stopStep s h) (stopStep s' h') := by
  unfold Rel stopStep at *
  obtain ⟨a1, a2⟩ := a
  obtain ⟨b1, b2⟩ := b
  by_cases hs : s = 0 <;> by_cases hh : h = 0
  · subst hs; subst hh
    have := a2 rfl
    have := b2 rfl
    refine ⟨fun h => ?_, fun _ => ?_⟩
    · simp at h
    · split <;> omega
  · subst hs
    obtain ⟨rfl, hle⟩ := b1 hh
    have ha := a2 rfl
    rw [if_pos ⟨by omega, .inl rfl⟩]
    refine ⟨fun _ => ⟨?_, hle⟩, fun h0 => absurd h0 hh⟩
    rw [if_pos ⟨by omega, by omega⟩]
  · subst hh
    obtain ⟨rfl, hle⟩ := a1 hs
    have hb := b2 rfl
    rw [if_neg (by omega)]
    refine ⟨fun _ => ⟨?_, hle⟩, fun h0 => absurd h0 hs⟩
    rw [if_neg (by omega)]
  · obtain ⟨rfl, hle⟩ := a1 hs
    obtain ⟨rfl, hle2⟩ := b1 hh
    refine ⟨fun _ => ⟨rfl, ?_⟩, fun h0 => ?_⟩
    · split <;> omega
    · exfalso; revert h0; split <;> omega
theorem rel_stop {K N N' : Nat} (hN : N ≤ N') {zs zs' : List (List Int)} (h : Exts zs zs') : ∀ (gs : List RT) (s s' : Nat), (∀ z ∈ zs, N ≤ z.length) → Rel N s s' → Rel N (stopL K N s gs zs) (stopL K N' s' gs zs') := by
  induction h with
  | nil => intro gs s s' _ hr; cases gs <;> exact hr
  | cons z r h ih =>
    intro gs s s' hz hr
    cases gs with
    | nil => exact hr
    | cons g gs =>
      simp only [stopL]
      exact ih gs _ _ (fun y hy => hz y (List.mem_cons_of_mem _ hy)) (rel_step hr (rel_dec _ (hz z (List.mem_cons_self ..)) hN))
theorem stop_same {K N : Nat} {zs zs' : List (List Int)} (h : Exts zs zs') : ∀ (gs : List RT) (s : Nat), (∀ z ∈ zs, N ≤ z.length) → stopL K N s gs zs' = stopL K N s gs zs := by
  induction h with
  | nil => intro gs s _; rfl
  | cons z r h ih =>
    intro gs s hz
    cases gs with
    | nil => rfl
    | cons g gs =>
      simp only [stopL]
      rw [ih gs _ (fun y hy => hz y (List.mem_cons_of_mem _ hy)), show decG K g (z ++ r) N = decG K g z N from by unfold decG; rw [List.take_append_of_le_length (hz z (List.mem_cons_self ..))]]
/-- the law's last line -/
theorem verdict_stays (P K : Int) (n m : ByteArray) (gs : List RT) (goal more : List Tri) (guards others : List (List Tri)) (h1 : verF P K n m gs goal guards = 0) (h2 : verF P K n m gs (goal ++ more) (mixL guards others) = 0) (hw : (verA P K n m gs goal guards).1 ≠ 1) :
    verA P K n m gs (goal ++ more) (mixL guards others) = verA P K n m gs goal guards := by
  unfold verA at hw ⊢
  rw [if_pos h1] at hw
  rw [if_pos h1, if_pos h2]
  simp only at hw ⊢
  obtain ⟨r, hr⟩ := pairZ_more goal more
  have hx : Exts ((goal :: guards).map pairZ) (((goal ++ more) :: mixL guards others).map pairZ) := by
    simp only [List.map_cons]; rw [hr]; exact .cons _ _ (exts_mix guards others)
  have hN := minN_ext hx P.toNat
  have hle := (minN_le ((goal :: guards).map pairZ) P.toNat)
  have hle' := (minN_le (((goal ++ more) :: mixL guards others).map pairZ) P.toNat).1
  generalize minN P.toNat (((goal ++ more) :: mixL guards others).map pairZ) = N' at *
  generalize minN P.toNat ((goal :: guards).map pairZ) = N at *
  have hz : ∀ z ∈ guards.map pairZ, N ≤ z.length := fun z hz => hle.2 z (by simp only [List.map_cons]; exact List.mem_cons_of_mem _ hz)
  have hg : N ≤ (pairZ goal).length := hle.2 _ (by simp)
  have rs := rel_stop (K := K.toNat) hN (exts_mix guards others) gs 0 0 hz ⟨fun h => absurd rfl h, fun _ => .inl rfl⟩
  have rt : Rel N (shipN K.toNat n m (pairZ goal) N) (shipN K.toNat n m (pairZ (goal ++ more)) N') := by unfold shipN; rw [hr]; exact rel_dec _ hg hN
  have same : N = P.toNat → stopL K.toNat N' 0 gs ((mixL guards others).map pairZ) = stopL K.toNat N 0 gs (guards.map pairZ) ∧ shipN K.toNat n m (pairZ (goal ++ more)) N' = shipN K.toNat n m (pairZ goal) N ∧ N' = N := fun h => by
    have e : N' = N := by omega
    subst e
    refine ⟨stop_same (exts_mix guards others) gs 0 hz, ?_, rfl⟩
    unfold shipN; rw [hr, List.take_append_of_le_length hg]
  generalize stopL K.toNat N' 0 gs ((mixL guards others).map pairZ) = s' at *
  generalize stopL K.toNat N 0 gs (guards.map pairZ) = s at *
  generalize shipN K.toNat n m (pairZ (goal ++ more)) N' = t' at *
  generalize shipN K.toNat n m (pairZ goal) N = t at *
  unfold Rel at rs rt
  obtain ⟨s1, s2⟩ := rs
  obtain ⟨t1, t2⟩ := rt
  unfold verdV at hw
  unfold verdV verdN
  by_cases hs : 0 < s ∧ (t = 0 ∨ s ≤ t)
  · obtain ⟨rfl, _⟩ := s1 (by omega)
    have hs' : 0 < s' ∧ (t' = 0 ∨ s' ≤ t') := by
      refine ⟨hs.1, ?_⟩
      by_cases h0 : t = 0
      · rcases t2 h0 with h3 | h3 <;> omega
      · obtain ⟨rfl, _⟩ := t1 h0; omega
    rw [if_pos hs, if_pos hs, if_pos hs', if_pos hs']
  · rw [if_neg hs] at hw ⊢
    rw [if_neg hs]
    by_cases ht : 0 < t
    · obtain ⟨rfl, hle2⟩ := t1 (by omega)
      have hs' : ¬ (0 < s' ∧ (t' = 0 ∨ s' ≤ t')) := by
        by_cases h0 : s = 0
        · rcases s2 h0 with h3 | h3 <;> omega
        · obtain ⟨rfl, _⟩ := s1 h0; omega
      rw [if_neg hs', if_neg hs', if_pos ht, if_pos ht, if_pos ht]
    · rw [if_neg ht] at hw ⊢
      rw [if_neg ht]
      by_cases hNP : N = P.toNat
      · obtain ⟨rfl, rfl, rfl⟩ := same hNP
        rw [if_neg hs, if_neg hs, if_neg ht, if_neg ht]
      · rw [if_neg hNP] at hw; exact absurd rfl hw
theorem verF_parts {P K : Int} {n m : ByteArray} {gs : List RT} {goal : List Tri} {guards : List (List Tri)} (h : verF P K n m gs goal guards = 0) : planF P K n m gs = 0 ∧ pF (goal :: guards) = 0 ∧ guards.length = gs.length := by
  unfold verF at h
  by_cases h1 : planF P K n m gs = 0
  · rw [if_neg (by simp [h1])] at h
    by_cases h2 : pF (goal :: guards) = 0
    · rw [if_neg (by simp [h2])] at h
      by_cases h3 : guards.length = gs.length
      · exact ⟨h1, h2, h3⟩
      · rw [if_pos h3] at h; cases h
    · rw [if_pos h2] at h; exact absurd h h2
  · rw [if_pos h1] at h; exact absurd h h1
theorem pF_range : ∀ L, pF L = 0 ∨ pF L = 1 ∨ pF L = 2
  | [] => .inl rfl
  | l :: r => by
    simp only [pF]
    split
    · unfold pairF; (repeat' split) <;> simp
    · exact pF_range r
theorem verF_later {P K : Int} {n m : ByteArray} {gs : List RT} {goal goal' : List Tri} {guards guards' : List (List Tri)} (h : verF P K n m gs goal guards = 0) (hl : guards'.length = guards.length) : verF P K n m gs goal' guards' = 0 ∨ verF P K n m gs goal' guards' = 1 ∨ verF P K n m gs goal' guards' = 2 := by
  obtain ⟨h1, _, h3⟩ := verF_parts h
  unfold verF
  rw [if_neg (by simp [h1])]
  split
  · exact pF_range _
  · rw [if_neg (by rw [hl]; exact fun h => h h3)]; exact .inl rfl
theorem pF_len : ∀ {L : List (List Tri)}, pF L = 0 → ∀ l ∈ L, l.length ≤ 20000
  | [], _, l, h => by cases h
  | x :: r, h, l, hl => by
    simp only [pF] at h
    by_cases h1 : pairF x = 0
    · rw [if_neg (by simp [h1])] at h
      rcases List.mem_cons.1 hl with rfl | hl
      · unfold pairF at h1
        rcases Nat.lt_or_ge 20000 l.length with h2 | h2
        · rw [if_pos h2] at h1; cases h1
        · exact h2
      · exact pF_len h l hl
    · rw [if_pos h1] at h; exact absurd h h1
end Nm
end Go.Proofs.Ytkinapdfmgfdfaa
namespace Go.Proofs.Ytkinapdfmgfdfaa
open Go.RowKit
namespace Nm

theorem tri_not (l : List Tri) : ∀ u ∈ l.flatMap triL, ¬ IsSl u := by
  intro u hu h
  simp only [List.mem_flatMap] at hu
  obtain ⟨t, _, ht⟩ := hu
  simp only [triL, List.mem_cons, List.not_mem_nil, or_false] at ht
  rcases ht with rfl | rfl <;> exact h
structure ML (w2 wr : World) (base : Nat) (v : Value) (k : Nat) (pvs : List SV) (ls : List (List Tri)) : Prop where
  low : Below w2.heap.size w2 wr
  own : wr.ownsRow base 27 1 v k (pvs.flatMap svL)
  q : RowQ IsSl wr v
  rows : RowsOf wr triL pvs ls
  len : pvs.length = k
  bs : base ≤ wr.heap.size
  lb : w2.heap.size ≤ base
theorem ML.ext {w2 wr w' : World} {base : Nat} {v : Value} {k : Nat} {pvs : List SV} {ls : List (List Tri)} (h : ML w2 wr base v k pvs ls) (hb : Below wr.heap.size wr w') : ML w2 w' base v k pvs ls :=
  ⟨ext_trans h.low hb, ownsRow_ext h.own hb, h.q.ext h.own hb, h.rows.ext hb, h.len, Nat.le_trans h.bs hb.size, h.lb⟩
theorem ML.push {w2 wr w' : World} {base : Nat} {v v' : Value} {k : Nat} {pvs : List SV} {ls : List (List Tri)} (h : ML w2 wr base v k pvs ls) (pv : SV) (z : List Tri) (hg : wr.grownBy w' v.ownBlock)
    (hown : w'.ownsRow base 27 1 v' (k + 1) (pvs.flatMap svL ++ [.slice pv.a pv.n pv.c])) (hq : RowQ IsSl w' v') (hn : pv.n = z.length) (hz : Sl wr (.slice pv.a pv.n pv.c) pv.n (z.flatMap triL)) : ML w2 w' base v' (k + 1) (pvs ++ [pv]) (ls ++ [z]) := by
  have lt : ∀ q, v.ownBlock = some q → base ≤ q := fun q e => (h.own.lt q e).1
  have hlb := h.lb
  refine ⟨h.low.grown hg h.low.size (fun q e => by have := lt q e; omega), ?_, hq, ⟨by rw [List.length_append, List.length_append, h.rows.1]; rfl, ?_⟩, by rw [List.length_append, h.len]; rfl, Nat.le_trans h.bs hg.size, hlb⟩
  · rw [List.flatMap_append]; simpa [svL] using hown
  · intro i sv z' e1 e2
    rcases Nat.lt_or_ge i pvs.length with hi | hi
    · rw [List.getElem?_append_left hi] at e1
      rw [List.getElem?_append_left (by rw [← h.rows.1]; exact hi)] at e2
      obtain ⟨h1, h2⟩ := h.rows.2 i sv z' e1 e2
      exact ⟨h1, h2.keepQ (tri_not _) h.q hg⟩
    · rw [List.getElem?_append_right hi] at e1
      rw [List.getElem?_append_right (by rw [← h.rows.1]; exact hi), ← h.rows.1] at e2
      have hi' : i - pvs.length = 0 := by
        rcases Nat.eq_zero_or_pos (i - pvs.length) with h0 | h0
        · exact h0
        · rw [List.getElem?_eq_none (by simp; omega)] at e1; cases e1
      rw [hi'] at e1 e2
      obtain rfl : pv = sv := by simpa using e1
      obtain rfl : z = z' := by simpa using e2
      exact ⟨hn, hz.keepQ (tri_not _) h.q hg⟩
theorem trials_info : (Try.prog.info? 27).map (fun i => (i.zero, i.size, i.bytes)) = some (some (.slice none 0 0), 1, 24) := by kernel_rfl
theorem Verdict_is (P K : Int) (n m : ByteArray) (hn : n.size ≤ maxLen) (hm : m.size ≤ maxLen) (gs : List RT) (hgs : ∀ r ∈ gs, rtOk r) (pa : Option Addr) (pc : Nat) (goal : List Tri) (ga : Option Addr) (gc : Nat) (guards : List (List Tri)) (svs : List SV) (N : Nat) (hN : svs.length = N) (oa : Option Addr) (oc : Nat) (w : World)
    (hs : Sl w (.slice pa gs.length pc) gs.length (gs.flatMap rtL)) (hgo : Sl w (.slice ga goal.length gc) goal.length (goal.flatMap triL)) (hsv : Sl w (.slice oa N oc) N (svs.flatMap svL)) (hrw : RowsOf w triL svs guards) (hsz : N * 24 ≤ 140737488351232) :
    Calls Try.prog 7 #[.agg #[Value.int .i64 P, Value.int .i64 K, Value.string n, Value.string m, Value.slice pa gs.length pc], .slice ga goal.length gc, .slice oa N oc] w (VerPost w (verA P K n m gs goal guards).1 (verA P K n m gs goal guards).2 (verF P K n m gs goal guards)) := by
  subst hN; exact Verdict_at P K n m hn hm gs hgs pa pc goal ga gc guards svs oa oc w hs hgo hsv hrw hsz
theorem mix_take {guards others : List (List Tri)} {k : Nat} {l : List Tri} (h : guards[k]? = some l) : (mixL guards others).take (k + 1) = (mixL guards others).take k ++ [l ++ othersAt others k] := by
  have h2 := mixL_get guards others k l h
  obtain ⟨hk, e⟩ := List.getElem?_eq_some_iff.1 h2
  rw [List.take_succ_eq_append_getElem hk, e]
theorem sv_cell {w : World} {a : Option Addr} {c : Nat} {svs : List SV} (h : Sl w (.slice a svs.length c) svs.length (svs.flatMap svL)) {k : Nat} {sv : SV} (hk : svs[k]? = some sv) : ∃ b o, a = some ⟨b, o, none⟩ ∧ w.cell? ⟨b, o + k, none⟩ = some (.slice sv.a sv.n sv.c) :=
  sl_addr h (by have := flat_get (f := svL) (sz := 1) (fun _ => rfl) svs k sv hk 0 _ rfl; simpa using this)
set_option maxRecDepth 100000 in
set_option maxHeartbeats 16000000 in
theorem walk (P K : Int) (n m : ByteArray) (hn : n.size ≤ maxLen) (hm : m.size ≤ maxLen) (gs : List RT) (hgs : ∀ r ∈ gs, rtOk r) (pa : Option Addr) (pc : Nat) (goal : List Tri) (ga : Option Addr) (gc : Nat) (more : List Tri) (ma : Option Addr) (mc : Nat) (guards : List (List Tri)) (svs : List SV) (oa : Option Addr) (oc : Nat) (others : List (List Tri)) (svs' : List SV) (oa' : Option Addr) (oc' : Nat) (w : World)
    (hs : Sl w (.slice pa gs.length pc) gs.length (gs.flatMap rtL)) (hgo : Sl w (.slice ga goal.length gc) goal.length (goal.flatMap triL)) (hmo : Sl w (.slice ma more.length mc) more.length (more.flatMap triL)) (hsv : Sl w (.slice oa svs.length oc) svs.length (svs.flatMap svL)) (hrw : RowsOf w triL svs guards) (hsv' : Sl w (.slice oa' svs'.length oc') svs'.length (svs'.flatMap svL)) (hrw' : RowsOf w triL svs' others)
    (hsz : svs.length * 24 ≤ 140737488351232) (hmz : more.length * 16 ≤ 140737488351232) (hoz : ∀ sv ∈ svs', sv.n * 16 ≤ 140737488351232) (hsm : svs'.length ≤ 9223372036854775807) :
    Calls Try.prog 3 #[.agg #[Value.int .i64 P, Value.int .i64 K, Value.string n, Value.string m, Value.slice pa gs.length pc], .slice ga goal.length gc, .slice ma more.length mc, .slice oa svs.length oc, .slice oa' svs'.length oc'] w fun e w' => e = .returned (.bool true) ∧ Below w.heap.size w w' := by
  have HS := Lib.hid hs
  have HGS := Lib.hid hgs
  have HGO := Lib.hid hgo
  have HMO := Lib.hid hmo
  have HSV := Lib.hid hsv
  have HSV' := Lib.hid hsv'
  have HRW := Lib.hid hrw
  have HRW' := Lib.hid hrw'
  have HOZ := Lib.hid hoz
  have HII := Lib.hid trials_info
  clear hs hgs hgo hmo hsv hsv' hrw hrw' hoz
  go_enter Try.func3, Try.ntmps3
  go_upto_region 1 with (fail)
  refine wp_box1 fun w0 hsz0 hbw0 hA0 => ?_
  clear hsz0
  go_wp2_with fail
  refine (awake_at _).mono ?_
  rintro e w1 ⟨rfl, hb1⟩
  have hA1 := hA0.ext hb1
  have hbw1 := ext_trans hbw0 hb1
  clear hA0 hb1 hbw0
  have t0 : w1.cell? ⟨w.heap.size, 0, none⟩ = some (.int .i64 P) := hA1.2 0
  have t1 : w1.cell? ⟨w.heap.size, 1, none⟩ = some (.int .i64 K) := hA1.2 1
  have t2 : w1.cell? ⟨w.heap.size, 2, none⟩ = some (.string n) := hA1.2 2
  have t3 : w1.cell? ⟨w.heap.size, 3, none⟩ = some (.string m) := hA1.2 3
  have t4 : w1.cell? ⟨w.heap.size, 4, none⟩ = some (.slice pa gs.length pc) := hA1.2 4
  go_wp2_with fail
  refine (Verdict_at P K n m hn hm gs HGS.out pa pc goal ga gc guards svs oa oc _ (HS.out.ext hbw1) (HGO.out.ext hbw1) (HSV.out.ext hbw1) (HRW.out.ext hbw1) hsz).mono ?_
  rintro e w2 ⟨rfl, hb2⟩
  have hA2 := hA1.ext hb2
  have hbw2 := ext_trans hbw1 hb2
  clear t0 t1 t2 t3 t4 hA1 hb2 hbw1
  by_cases hf : verF P K n m gs goal guards = 0
  · have hne : (verF P K n m gs goal guards != 0) = false := by simp [hf]
    have HF := Lib.hid hf
    have HLEN := Lib.hid (pF_len (verF_parts hf).2.1)
    clear hf
    obtain ⟨base, HBASE⟩ : ∃ base, Hid (w2.heap.size = base) := ⟨_, rfl⟩
    have HML : Hid (ML w2 w2 base (.slice none 0 0) 0 [] []) := ⟨Below.refl _ _, World.ownsRow_nil _ _ _ _, RowQ.nil _ _, ⟨rfl, fun i sv z h => by simp at h⟩, rfl, by rw [HBASE.out]; exact Nat.le_refl _, by rw [HBASE.out]; exact Nat.le_refl _⟩
    go_wp2
    go_loopw [14, 15, 16, 39] (fun v _ _ i wr => ∃ (k : Nat) (pvs : List SV) (ls : List (List Tri)), k ≤ svs.length ∧ i = .int .i64 k ∧ Hid (ls = (mixL guards others).take k) ∧ Hid (ML w2 wr base v k pvs ls)) (fun _ _ _ i _ => svs.length - (intOf i).toNat)
    case atStart => exact ⟨0, [], [], by omega, rfl, rfl, HML⟩
    case round =>
      clear HML
      obtain ⟨k, pvs, ls, hk, rfl, HLS, HML⟩ := hrel
      by_cases hlt : k < svs.length
      · obtain ⟨sv, hgk⟩ : ∃ sv, svs[k]? = some sv := ⟨_, List.getElem?_eq_getElem hlt⟩
        obtain ⟨l, hll⟩ : ∃ l, guards[k]? = some l := ⟨_, List.getElem?_eq_getElem (by rw [← HRW.out.1]; exact hlt)⟩
        obtain ⟨hsn, hss⟩ := HRW.out.2 k sv l hgk hll
        have hl20 : l.length ≤ 20000 := HLEN.out l (List.mem_cons_of_mem _ (List.mem_of_getElem? hll))
        have HMX := Lib.hid (mix_take (others := others) hll)
        have hbL := ext_trans hbw2 HML.out.low
        obtain ⟨bl, ol, rfl, hc⟩ := sv_cell (HSV.out.ext hbL) hgk
        obtain ⟨sa, sn, sc⟩ := sv
        simp only at hsn hss hc
        subst hsn
        have HSS := Lib.hid (hss.ext hbL)
        have hbs := HML.out.bs
        clear hgk hll hss
        by_cases hko : k < svs'.length
        · obtain ⟨sv', hgk'⟩ : ∃ sv, svs'[k]? = some sv := ⟨_, List.getElem?_eq_getElem hko⟩
          obtain ⟨o, hoo⟩ : ∃ l, others[k]? = some l := ⟨_, List.getElem?_eq_getElem (by rw [← HRW'.out.1]; exact hko)⟩
          obtain ⟨hsn', hss'⟩ := HRW'.out.2 k sv' o hgk' hoo
          have hoz := HOZ.out sv' (List.mem_of_getElem? hgk')
          obtain ⟨bo, oo, rfl, hc'⟩ := sv_cell (HSV'.out.ext hbL) hgk'
          obtain ⟨sa', sn', sc'⟩ := sv'
          simp only at hsn' hss' hc' hoz
          subst hsn'
          have HSS' := Lib.hid (hss'.ext hbL)
          obtain ⟨LO, HLO⟩ : ∃ LO, Hid (LO = l ++ othersAt others k) := ⟨_, rfl⟩
          have HCAT : Hid (Calls Try.prog 8 #[.slice (some ⟨wr.heap.size, 0, none⟩) 2 2] (wr.alloc (.cells #[.slice sa l.length sc, .slice sa' o.length sc'] 27)) (CCCatT.CatFrom wr LO)) := by
            have h := CCCatT.cat_new' wr sa sa' sc sc' l o HSS.out HSS'.out (by omega)
            rw [show l ++ o = LO by rw [HLO.out]; simp [othersAt, hoo]] at h
            exact h
          rw [← HLO.out] at HMX
          clear hgk' hoo hss' hoz
          have j0 : (0 : Int) ≤ (k : Int) := Int.natCast_nonneg _
          go_wp2_with fail
          refine HCAT.out.mono ?_
          rintro e w5 ⟨a5, c5, rfl, hs5, _, hb5⟩
          have HS5 : Hid (Sl w5 (.slice a5 LO.length c5) LO.length (LO.flatMap triL)) := hs5
          have HM5 := Lib.hid (HML.out.ext hb5)
          have hbs5 := HM5.out.bs
          clear hs5 hb5 HML hc hc'
          go_wp2_with (at_builtin; refine wpList_append_q IsSl rfl _ _ 28 rfl base 27 Try.underlying28 HII.out rfl (by decide) rfl (HM5.out.ext (ext_alloc _ _)).own rfl (Sl.new w5 #[.slice a5 LO.length c5] _ 1 1 (by omega) (by decide)) rfl (by intro u hu; simp at hu; subst hu; rfl) (by unfold maxLen; omega) (by omega) (by simp; omega) (HM5.out.ext (ext_alloc _ _)).q (by intro u hu; simp [Value.cells] at hu; subst hu; trivial) (by intro u hu; simp at hu; subst hu; trivial) ?_; intro v7 w7 hown7 hg7 hat7 hq7; have HM7 := Lib.hid ((HM5.out.ext (ext_alloc w5 _)).push ⟨a5, LO.length, c5⟩ LO hg7 hown7 hq7 rfl (HS5.out.ext (ext_alloc _ _))); clear hown7 hg7 hat7 hq7)
          go_roundw
          case rel => exact ⟨k + 1, _, _, by omega, by go_num, by rw [HMX.out]; exact HLS.out ▸ rfl, HM7⟩
          case measure => simp [intOf]; omega
        · rw [show l ++ othersAt others k = l from by
            have : others[k]? = none := List.getElem?_eq_none (by rw [← HRW'.out.1]; omega)
            simp [othersAt, this]] at HMX
          go_wp2_with (at_builtin; refine wpList_append_q IsSl rfl _ _ 28 rfl base 27 Try.underlying28 HII.out rfl (by decide) rfl (HML.out.ext (ext_alloc _ _)).own rfl (Sl.new wr #[.slice sa l.length sc] _ 1 1 (by omega) (by decide)) rfl (by intro u hu; simp at hu; subst hu; rfl) (by unfold maxLen; omega) (by omega) (by simp; omega) (HML.out.ext (ext_alloc _ _)).q (by intro u hu; simp [Value.cells] at hu; subst hu; trivial) (by intro u hu; simp at hu; subst hu; trivial) ?_; intro v7 w7 hown7 hg7 hat7 hq7; have HM7 := Lib.hid ((HML.out.ext (ext_alloc wr _)).push ⟨sa, l.length, sc⟩ l hg7 hown7 hq7 rfl (HSS.out.ext (ext_alloc _ _))); clear hown7 hg7 hat7 hq7)
          go_roundw
          case rel => exact ⟨k + 1, _, _, by omega, by go_num, by rw [HMX.out]; exact HLS.out ▸ rfl, HM7⟩
          case measure => simp [intOf]; omega
      · have hks : k = svs.length := by omega
        subst hks
        have HLX : Hid (ls = mixL guards others) := by
          have h := HLS.out
          rw [List.take_of_length_le (by rw [mixL_length, ← HRW.out.1]; exact Nat.le_refl _)] at h
          exact h
        have HPV : Hid (pvs.length = svs.length) := HML.out.len
        have hbL := ext_trans hbw2 HML.out.low
        have hA3 := hA2.ext HML.out.low
        obtain ⟨L2, HL2⟩ : ∃ L2, Hid (L2 = goal ++ more) := ⟨_, rfl⟩
        have hg20 : goal.length ≤ 20000 := HLEN.out goal (List.mem_cons_self ..)
        have HCAT : Hid (Calls Try.prog 8 #[.slice (some ⟨wr.heap.size, 0, none⟩) 2 2] (wr.alloc (.cells #[.slice ga goal.length gc, .slice ma more.length mc] 27)).drew (CCCatT.CatFrom wr L2)) := by
          have h := CCCatT.cat_new wr ga ma gc mc goal more (HGO.out.ext hbL) (HMO.out.ext hbL) (by omega)
          rw [← HL2.out] at h
          exact h
        have HRS : Hid (RowsOf wr triL pvs (mixL guards others)) := by
          have h := HML.out.rows
          rw [HLX.out] at h; exact h
        have HOS := Lib.hid (Sl.ofOwn HML.out.own)
        obtain ⟨va, vc, rfl⟩ := own_any HML.out.own
        go_wp2_with fail
        go_region_held3 (S2R wr wr.heap.size w.heap.size #[Value.int .i64 P, Value.int .i64 K, Value.string n, Value.string m, Value.slice pa gs.length pc] w.heap.size #[Value.int .i64 P, Value.int .i64 K, Value.string n, Value.string m, Value.slice pa gs.length pc]) (first | exact S2R.start hA3 hA3 | exact S2R.ext (by with_reducible assumption) (by with_reducible assumption) (Nat.le_refl _) hA3 hA3 | (refine S2R.fromB ?_ (Nat.le_refl _) hA3 hA3; go_grown) | assumption) (first | (go_at_call 8; ((with_reducible refine HCAT.out.mono ?_)); rintro e x5 ⟨a5, c5, rfl, hs5, _, hx5⟩; have hd5 := Lib.hid hx5; have HS5 := Lib.hid hs5; clear hs5) | (go_at_call 7; refine (Verdict_is P K n m hn hm gs HGS.out pa pc L2 a5 c5 (mixL guards others) pvs svs.length HPV.out va vc _ (HS.out.ext (ext_trans hbL hd5.out)) HS5.out (HOS.out.ext hd5.out) (HRS.out.ext hd5.out) hsz).mono ?_; rintro e w5 ⟨rfl, hb5⟩; have hc5 := Lib.hid (ext_trans hd5.out hb5)))
        have hbw5 := ext_trans hbL hc5.out
        have HLT := Lib.hid (verF_later (goal' := L2) (guards' := mixL guards others) HF.out (mixL_length _ _))
        by_cases hg : verF P K n m gs L2 (mixL guards others) = 0
        · have hne2 : (verF P K n m gs L2 (mixL guards others) != 0) = false := by simp [hg]
          by_cases hw1 : (verA P K n m gs goal guards).1 = 1
          · have g1 : ((verA P K n m gs goal guards).1 == 1) = true := by rw [hw1]; rfl
            clear hw1 hg
            go_wp2
            go_ret
            exact ⟨rfl, hbw5⟩
          · have g1 : ((verA P K n m gs goal guards).1 == 1) = false := beq_eq_false_iff_ne.2 hw1
            have hst := verdict_stays P K n m gs goal more guards others HF.out (by rw [← HL2.out]; exact hg) hw1
            rw [← HL2.out] at hst
            rw [hst]
            have g2 : ((verA P K n m gs goal guards).1 == (verA P K n m gs goal guards).1) = true := by simp
            have g3 : ((verA P K n m gs goal guards).2 == (verA P K n m gs goal guards).2) = true := by simp
            clear hst hw1 hg
            go_wp2
            go_ret
            exact ⟨rfl, hbw5⟩
        · have hne2 : (verF P K n m gs L2 (mixL guards others) != 0) = true := by simp [hg]
          rcases HLT.out with h1 | h1 | h1
          · exact absurd h1 hg
          · have g1 : (verF P K n m gs L2 (mixL guards others) == 2) = false := by rw [h1]; rfl
            have g2 : (verF P K n m gs L2 (mixL guards others) == 1) = true := by rw [h1]; rfl
            clear hg h1
            go_wp2
            go_ret
            exact ⟨rfl, hbw5⟩
          · have g1 : (verF P K n m gs L2 (mixL guards others) == 2) = true := by rw [h1]; rfl
            clear hg h1
            go_wp2
            go_ret
            exact ⟨rfl, hbw5⟩
  · have hne : (verF P K n m gs goal guards != 0) = true := by simp [hf]
    have hv := verA_no rfl hf
    rw [hv]
    clear hf hv
    go_wp2
    go_ret
    exact ⟨rfl, hbw2⟩
end Nm
end Go.Proofs.Ytkinapdfmgfdfaa
