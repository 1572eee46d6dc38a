/- Arrays of two ints as keys. The chances' numbers are short: multiples of 1 / 10^(6 k), bounded. Plain mathematics. The chances' maps and numbers, as they lie in memory. The chances' numbers are short enough for the big numbers' contracts; what the loops hold. What the chances' inner loop holds; a run of next and entry as laws of the walk. -/
import Derived.Test.YtmnmepbljegjeaaGreatDoorProg
import Derived.Test.YtmnmepbljegjeaaGreatDoorBa43
import Derived.Test.YtmnmepbljegjeaaGreatDoorBa35
import Derived.ChangeKeysEq
import Derived.Test.YtmnmepbljegjeaaGreatDoorBa01
import Derived.Test.YtmnmepbljegjeaaGreatDoorBa30
import Derived.Test.YtmnmepbljegjeaaGreatDoorBa20
import Derived.Test.YtmnmepbljegjeaaGreatDoorBa19
namespace Go.Proofs.YtmnmepbljegjeaaGreatDoor
open Go.RowKit
namespace Ch
abbrev ptV (a : Pt) : Value := .agg #[.int .i64 (a.1 : Int), .int .i64 (a.2 : Int)]
set_option maxHeartbeats 1000000 in
theorem equal_pt (x y : Pt) (w : World) : (Op.equal 202 (ptV x) (ptV y)).run Tryz.prog w = .ok (decide (x = y)) w := by
  have e1 : (Op.equalIn 10000 202 (ptV x) (ptV y)).run Tryz.prog w = .ok (decide (x = y)) w := by
    obtain ⟨x1, x2⟩ := x
    obtain ⟨y1, y2⟩ := y
    obtain ⟨i, hi, _⟩ := info_parts (show (Tryz.prog.info? 3).map (fun i => (i.zero, i.size, i.bytes)) = some (some (.int .i64 0), 1, 8) by kernel_rfl)
    rw [Go.run_equalIn_array w 9999 _ _ Tryz.underlying202 hi, show Tryz.prog.cellsOf 3 = 1 by kernel_rfl, show List.range 2 = [0, 1] from rfl]
    simp only [Op.eqItems]
    go_simp
    by_cases h1 : x1 = y1 <;> by_cases h2 : x2 = y2 <;> simp [h1, h2, Int.ofNat_inj]
  exact e1
theorem pt_ok : KeyOk Tryz.prog 202 ptV := by
  refine KeyOk.asking (kind := _) Tryz.underlying202 (fun e x w => ?_) (fun x y => rfl) equal_pt (fun x => ?_)
  · kernel_rfl
  · simp [Instr.sameBits]
theorem zero_xr (w : World) : (zeroValue 88).run Tryz.prog w = .ok (.agg #[.bool false, .slice none 0 0, .slice none 0 0]) w := by kernel_rfl
end Ch
end Go.Proofs.YtmnmepbljegjeaaGreatDoor
namespace Go.Proofs.YtmnmepbljegjeaaGreatDoor
namespace Ch
open _root_.Go.Proofs.YtmnmepbljegjeaaGreatDoor.Nm
/-- q is m / D with m at most M. -/
def Fit (D M : Nat) (q : Rat) : Prop := D ≠ 0 ∧ ∃ m : Nat, m ≤ M ∧ q = mkRat (m : Int) D
theorem Fit.zero {D : Nat} (hD : D ≠ 0) (M : Nat) : Fit D M 0 := ⟨hD, 0, Nat.zero_le _, by simp⟩
theorem Fit.mono {D M M' : Nat} {q : Rat} (h : Fit D M q) (hM : M ≤ M') : Fit D M' q := by
  obtain ⟨hD, m, hm, rfl⟩ := h; exact ⟨hD, m, Nat.le_trans hm hM, rfl⟩
theorem Fit.scale {D M : Nat} {q : Rat} (h : Fit D M q) {c : Nat} (hc : c ≠ 0) : Fit (D * c) (M * c) q := by
  obtain ⟨hD, m, hm, rfl⟩ := h
  refine ⟨Nat.mul_ne_zero hD hc, m * c, Nat.mul_le_mul_right _ hm, ?_⟩
  rw [Int.natCast_mul, Rat.mkRat_mul_right hc]
theorem Fit.add {D M N : Nat} {p q : Rat} (h : Fit D M p) (k : Fit D N q) : Fit D (M + N) (p + q) := by
  obtain ⟨hD, m, hm, rfl⟩ := h
  obtain ⟨_, n, hn, rfl⟩ := k
  refine ⟨hD, m + n, by omega, ?_⟩
  rw [Rat.mkRat_add_mkRat _ _ hD hD, ← Int.add_mul, Rat.mkRat_mul_right hD, Int.natCast_add]
theorem Fit.mul {D E M N : Nat} {p q : Rat} (h : Fit D M p) (k : Fit E N q) : Fit (D * E) (M * N) (p * q) := by
  obtain ⟨hD, m, hm, rfl⟩ := h
  obtain ⟨hE, n, hn, rfl⟩ := k
  refine ⟨Nat.mul_ne_zero hD hE, m * n, Nat.mul_le_mul hm hn, ?_⟩
  rw [Rat.mkRat_mul_mkRat, Int.natCast_mul]
theorem Fit.int {n M : Nat} (h : n ≤ M) : Fit 1 M ((n : Int) : Rat) := ⟨by omega, n, h, by rw [Rat.mkRat_one]⟩
theorem Fit.bound {D M : Nat} {q : Rat} (h : Fit D M q) : q.num.natAbs ≤ M ∧ q.den ≤ D := by
  obtain ⟨hD, m, hm, rfl⟩ := h
  have e : mkRat (m : Int) D = Rat.normalize (sgn false m) D hD := by rw [Rat.normalize_eq_mkRat]; rfl
  rw [e, norm_abs, norm_den]
  exact ⟨Nat.le_trans (Nat.div_le_self _ _) hm, Nat.div_le_self _ _⟩
theorem Fit.sum {D M : Nat} (hD : D ≠ 0) : ∀ {l : List Rat}, (∀ x ∈ l, Fit D M x) → Fit D (l.length * M) (sumL l)
  | [], _ => Fit.zero hD _
  | x :: l, h => by
    have h1 := h x (by simp)
    have h2 := Fit.sum hD (l := l) (fun y hy => h y (by simp [hy]))
    have := h1.add h2
    rw [List.length_cons, Nat.add_mul, Nat.one_mul, Nat.add_comm]; exact this
theorem Fit.at_ {D M : Nat} (hD : D ≠ 0) {C : List (Pt × Rat)} (h : ∀ c ∈ C, Fit D M c.2) (t : Pt) : Fit D (C.length * M) (at_ C t) := by
  refine (Fit.sum (M := M) hD fun x hx => ?_).mono (Nat.mul_le_mul_right _ ?_)
  · obtain ⟨c, hc, rfl⟩ := List.mem_map.1 hx; exact h c (List.mem_filter.1 hc).1
  · rw [List.length_map]; exact List.length_filter_le _ _
theorem Fit.dec_ {D M : Nat} (hD : D ≠ 0) {C : List (Pt × Rat)} (h : ∀ c ∈ C, Fit D M c.2) (dec : Pt → Bool) : Fit D (C.length * M) (dec_ dec C) := by
  refine (Fit.sum (M := M) hD fun x hx => ?_).mono (Nat.mul_le_mul_right _ ?_)
  · obtain ⟨c, hc, rfl⟩ := List.mem_map.1 hx; exact h c (List.mem_filter.1 hc).1
  · rw [List.length_map]; exact List.length_filter_le _ _
theorem out_fit {u d e : Rat} {f : Pt → Rat} {D M N : Nat} (hf : ∀ a, Fit D M (f a)) (hu : Fit 1000000 N u) (hd : Fit 1000000 N d) (he : Fit 1000000 N e) (a : Pt) : ∀ c ∈ out u d e f a, Fit (D * 1000000) (M * N) c.2 := by
  intro c hc
  unfold out tr at hc
  simp only [List.map_cons, List.map_nil, List.mem_cons, List.not_mem_nil, or_false] at hc
  rcases hc with rfl | rfl | rfl
  · exact (hf a).mul hu
  · exact (hf a).mul hd
  · exact (hf a).mul he
end Ch
end Go.Proofs.YtmnmepbljegjeaaGreatDoor
namespace Go.Proofs.YtmnmepbljegjeaaGreatDoor
open Go.RowKit
namespace Ch
open _root_.Go.Proofs.YtmnmepbljegjeaaGreatDoor.Nm
section
variable {α β : Type} [DecidableEq α]
theorem putL_keys (l : List (α × β)) (x : α) (y : β) : (putL l x y).map (·.1) = if x ∈ l.map (·.1) then l.map (·.1) else l.map (·.1) ++ [x] := by
  induction l with
  | nil => simp [putL]
  | cons p l ih =>
    unfold putL
    by_cases h : x = p.1
    · simp [h]
    · rw [if_neg h, List.map_cons, ih]
      by_cases hm : x ∈ l.map (·.1)
      · rw [if_pos hm, if_pos (by simp only [List.map_cons, List.mem_cons]; exact .inr hm)]; rfl
      · rw [if_neg hm, if_neg (by simp only [List.map_cons, List.mem_cons]; exact fun e => e.elim h hm)]; rfl
theorem putL_mem {l : List (α × β)} (hn : (l.map (·.1)).Nodup) {x : α} {y : β} {p : α × β} (h : p ∈ putL l x y) : p = (x, y) ∨ (p ∈ l ∧ p.1 ≠ x) := by
  induction l with
  | nil => simp [putL] at h; exact .inl h
  | cons q l ih =>
    rw [List.map_cons, List.nodup_cons] at hn
    unfold putL at h
    by_cases hx : x = q.1
    · rw [if_pos hx] at h
      rcases List.mem_cons.1 h with h | h
      · exact .inl h
      · exact .inr ⟨List.mem_cons_of_mem _ h, fun e => hn.1 (by rw [← hx, ← e]; exact List.mem_map_of_mem h)⟩
    · rw [if_neg hx] at h
      rcases List.mem_cons.1 h with rfl | h
      · exact .inr ⟨List.mem_cons_self .., fun e => hx e.symm⟩
      · rcases ih hn.2 h with h | ⟨h, h'⟩
        · exact .inl h
        · exact .inr ⟨List.mem_cons_of_mem _ h, h'⟩
theorem look_mem {l : List (α × β)} {x : α} {y : β} (h : look l x = some y) : (x, y) ∈ l := by
  induction l with
  | nil => cases h
  | cons p l ih =>
    unfold look at h ih
    rw [List.find?_cons] at h
    by_cases hx : x = p.1
    · simp only [hx, decide_true, Option.map_some, Option.some.injEq] at h
      rw [hx, ← h]; exact List.mem_cons_self ..
    · simp only [hx, decide_false] at h
      exact List.mem_cons_of_mem _ (ih h)
theorem look_none {l : List (α × β)} {x : α} (h : look l x = none) : x ∉ l.map (·.1) := by
  induction l with
  | nil => simp
  | cons p l ih =>
    unfold look at h ih
    rw [List.find?_cons] at h
    by_cases hx : x = p.1
    · simp [hx] at h
    · simp only [hx, decide_false] at h
      simp only [List.map_cons, List.mem_cons]
      rintro (e | e)
      · exact hx e
      · exact ih h e
end
/-- the map of what is open, after the contributions C -/
structure Next (dec : Pt → Bool) (w : World) (m : Nat) (C : List (Pt × Rat)) (l : List (Pt × Value)) : Prop where
  map : MapIs ptV id w m l
  nd : (l.map (·.1)).Nodup
  val : ∀ p ∈ l, XR w p.2 (at_ C p.1) ∧ dec p.1 = false ∧ ∃ c ∈ C, c.1 = p.1
  all : ∀ c ∈ C, dec c.1 = false → c.1 ∈ l.map (·.1)
  len : l.length ≤ C.length
variable {dec : Pt → Bool} {w w' : World} {m : Nat} {C : List (Pt × Rat)} {l : List (Pt × Value)}
theorem Next.start (dec : Pt → Bool) (h : MapIs ptV id w m []) : Next dec w m [] [] := ⟨h, by simp, (fun p hp => by cases hp), (fun c hc => by cases hc), Nat.le_refl _⟩
theorem Next.keep (h : Next dec w m C l) (hm : MapIs ptV id w' m l) (hk : Kp w w') : Next dec w' m C l := ⟨hm, h.nd, fun p hp => ⟨(h.val p hp).1.kp hk, (h.val p hp).2⟩, h.all, h.len⟩
theorem Next.ext (h : Next dec w m C l) (hb : Below w.heap.size w w') : Next dec w' m C l := h.keep (h.map.ext hb) (Kp.ext hb)
theorem Next.skip (h : Next dec w m C l) {c : Pt × Rat} (hc : dec c.1 = true) : Next dec w m (C ++ [c]) l := by
  refine ⟨h.map, h.nd, fun p hp => ?_, fun d hd hx => ?_, by rw [List.length_append]; exact Nat.le_trans h.len (Nat.le_add_right _ _)⟩
  · obtain ⟨h1, h2, e, he, h3⟩ := h.val p hp
    refine ⟨?_, h2, e, List.mem_append_left _ he, h3⟩
    rw [at_snoc, if_neg (fun e => by rw [e, h2] at hc; cases hc)]; exact h1
  · rcases List.mem_append.1 hd with hd | hd
    · exact h.all d hd hx
    · simp at hd; subst hd; rw [hc] at hx; cases hx
theorem at_none {t : Pt} (h : ∀ c ∈ C, c.1 ≠ t) : at_ C t = 0 := by
  unfold at_
  rw [List.filter_eq_nil_iff.2 (fun c hc => by simp [h c hc])]; rfl
theorem Next.none (h : Next dec w m C l) {t : Pt} (hd : dec t = false) (hl : look l t = none) : at_ C t = 0 :=
  at_none fun c hc e => look_none hl (by rw [← e]; exact h.all c hc (by rw [e]; exact hd))
theorem Next.some (h : Next dec w m C l) {t : Pt} {v : Value} (hl : look l t = some v) : XR w v (at_ C t) := (h.val _ (look_mem hl)).1
theorem Next.put (h : Next dec w m C l) {c : Pt × Rat} (hc : dec c.1 = false) {v : Value} (hv : XR w' v (at_ C c.1 + c.2)) (hm : MapIs ptV id w' m (putL l c.1 v)) (hk : Kp w w') : Next dec w' m (C ++ [c]) (putL l c.1 v) := by
  refine ⟨hm, ?_, fun p hp => ?_, fun d hd hx => ?_, by rw [List.length_append]; exact Nat.le_trans (putL_length l c.1 v) (Nat.add_le_add_right h.len 1)⟩
  · rw [putL_keys]
    split
    · exact h.nd
    · next hn =>
      refine List.nodup_append.2 ⟨h.nd, by simp, fun a ha b hb e => ?_⟩
      simp at hb; subst hb; subst e; exact hn ha
  · rcases putL_mem h.nd hp with rfl | ⟨hp, hne⟩
    · refine ⟨?_, hc, c, by simp, rfl⟩
      rw [at_snoc, if_pos rfl]; exact hv
    · obtain ⟨h1, h2, e, he, h3⟩ := h.val p hp
      refine ⟨?_, h2, e, List.mem_append_left _ he, h3⟩
      rw [at_snoc, if_neg (fun e => hne e.symm)]; exact h1.kp hk
  · rw [putL_keys]
    rcases List.mem_append.1 hd with hd | hd
    · split
      · exact h.all d hd hx
      · exact List.mem_append_left _ (h.all d hd hx)
    · simp at hd; subst hd
      split
      · next hn => exact hn
      · simp
/-- what is open after so many pairs: f says how much, at each place -/
structure Open (f : Pt → Rat) (k : Nat) (w : World) (m : Nat) (l : List (Pt × Value)) : Prop where
  map : MapIs ptV id w m l
  nd : (l.map (·.1)).Nodup
  val : ∀ p ∈ l, XR w p.2 (f p.1) ∧ p.1.1 + p.1.2 ≤ k
  all : ∀ a, a ∉ l.map (·.1) → f a = 0
  len : l.length ≤ 3 ^ k
theorem Open.ext {f : Pt → Rat} {k : Nat} (h : Open f k w m l) (hb : Below w.heap.size w w') : Open f k w' m l := ⟨h.map.ext hb, h.nd, fun p hp => ⟨(h.val p hp).1.ext hb, (h.val p hp).2⟩, h.all, h.len⟩
/-- the contributions of pairs of the map -/
def outs (u d e : Rat) (f : Pt → Rat) (done : List (Pt × Value)) : List (Pt × Rat) := (done.map (·.1)).flatMap (out u d e f)
theorem outs_snoc (u d e : Rat) (f : Pt → Rat) (done : List (Pt × Value)) (p : Pt × Value) : outs u d e f (done ++ [p]) = outs u d e f done ++ out u d e f p.1 := by
  unfold outs; rw [List.map_append, List.flatMap_append]; simp
theorem outs_len (u d e : Rat) (f : Pt → Rat) (done : List (Pt × Value)) : (outs u d e f done).length = 3 * done.length := by
  induction done with
  | nil => rfl
  | cons p l ih =>
    unfold outs at ih ⊢
    rw [List.map_cons, List.flatMap_cons, List.length_append, ih, List.length_cons]
    have : (out u d e f p.1).length = 3 := rfl
    omega
theorem sumL_perm_flat {g : Pt → Rat} {a b : List Pt} (h : a.Perm b) : sumL (a.map g) = sumL (b.map g) := sumL_perm (h.map g)
theorem out_near {u d e : Rat} {f : Pt → Rat} {a : Pt} {c : Pt × Rat} (h : c ∈ out u d e f a) : c.1.1 + c.1.2 ≤ a.1 + a.2 + 1 := by
  unfold out tr at h
  simp only [List.map_cons, List.map_nil, List.mem_cons, List.not_mem_nil, or_false] at h
  rcases h with rfl | rfl | rfl <;> simp <;> omega
/-- a whole round: what is open next, and what has been decided -/
theorem Next.done {u d e : Rat} {f : Pt → Rat} {k n : Nat} {mo : Nat} {lo done : List (Pt × Value)} {wo : World} (h : Next dec w m (outs u d e f done) l) (ho : Open f k wo mo lo) (hp : done.Perm lo) (hk : k ≤ n) :
    Open (nextF dec u d e n f) (k + 1) w m l ∧ dec_ dec (outs u d e f done) = moreF dec u d e n f := by
  have hpk : (done.map (·.1)).Perm (lo.map (·.1)) := hp.map _
  have hkeys : ∀ a ∈ done.map (·.1), a.1 ≤ n ∧ a.2 ≤ n := fun a ha => by
    obtain ⟨p, hp', rfl⟩ := List.mem_map.1 (hpk.mem_iff.1 ha)
    have := (ho.val p hp').2
    omega
  have hnd : (done.map (·.1)).Nodup := hpk.nodup_iff.2 ho.nd
  have hz : ∀ a, a ∉ done.map (·.1) → f a = 0 := fun a ha => ho.all a (fun h => ha (hpk.mem_iff.2 h))
  have hat : ∀ t, at_ (outs u d e f done) t = at_ ((grid n).flatMap (out u d e f)) t := fun t => at_keys hnd hkeys hz t
  refine ⟨⟨h.map, h.nd, fun p hp' => ?_, fun a ha => ?_, ?_⟩, dec_keys dec hnd hkeys hz⟩
  · obtain ⟨h1, h2, c, hc, h3⟩ := h.val p hp'
    constructor
    · unfold nextF; rw [if_neg (by simp [h2]), ← hat]; exact h1
    · unfold outs at hc
      obtain ⟨b, hb, hc⟩ := List.mem_flatMap.1 hc
      obtain ⟨q, hq, rfl⟩ := List.mem_map.1 (hpk.mem_iff.1 hb)
      have h4 := (ho.val q hq).2
      have h5 := out_near hc
      rw [h3] at h5; omega
  · unfold nextF
    by_cases hd : dec a = true
    · rw [if_pos hd]
    · rw [if_neg hd, ← hat]
      refine at_none fun c hc e => ha ?_
      rw [← e]
      exact h.all c hc (by rw [e]; simpa using hd)
  · have h1 := h.len
    rw [outs_len, hp.length_eq] at h1
    have h2 := ho.len
    have h3 : 3 ^ (k + 1) = 3 * 3 ^ k := by rw [Nat.pow_succ, Nat.mul_comm]
    rw [h3]; omega
theorem Open.start (dec : Pt → Bool) (u d e : Rat) (n : Nat) {v : Value} (hm : MapIs ptV id w m [((0, 0), v)]) (hv : XR w v 1) : Open (chF dec u d e n 0) 0 w m [((0, 0), v)] := by
  refine ⟨hm, by simp, fun p hp => ?_, fun a ha => ?_, by simp⟩
  · simp at hp; subst hp; exact ⟨by simpa [chF] using hv, by simp⟩
  · simp at ha; unfold chF; rw [if_neg ha]
/-- three cells of an exact number -/
structure X3 where
  b : Bool
  a1 : Option Addr
  n1 : Nat
  c1 : Nat
  a2 : Option Addr
  n2 : Nat
  c2 : Nat
abbrev x3C (t : X3) : Array Value := #[.bool t.b, .slice t.a1 t.n1 t.c1, .slice t.a2 t.n2 t.c2]
abbrev x3V (t : X3) : Value := .agg #[.bool t.b, .slice t.a1 t.n1 t.c1, .slice t.a2 t.n2 t.c2]
def x3L (t : X3) : List Value := [.bool t.b, .slice t.a1 t.n1 t.c1, .slice t.a2 t.n2 t.c2]
theorem XR.x3 {w : World} {v : Value} {q : Rat} (h : XR w v q) : ∃ t : X3, v = x3V t ∧ XR w (x3V t) q := by
  obtain ⟨v1, v2, rfl, h1, h2⟩ := h
  have e1 : ∃ a n c, v1 = .slice a n c := by obtain ⟨a, c, hv, _⟩ := h1; exact ⟨a, _, c, hv⟩
  have e2 : ∃ a n c, v2 = .slice a n c := by obtain ⟨a, c, hv, _⟩ := h2; exact ⟨a, _, c, hv⟩
  obtain ⟨a1, n1, c1, rfl⟩ := e1
  obtain ⟨a2, n2, c2, rfl⟩ := e2
  exact ⟨⟨_, a1, n1, c1, a2, n2, c2⟩, rfl, ⟨_, _, rfl, h1, h2⟩⟩
theorem x3_one (t : X3) : ∀ u ∈ x3L t, u.oneCell' = true := by
  intro u hu; simp [x3L] at hu; rcases hu with rfl | rfl | rfl <;> rfl
theorem x3_nw (t : X3) : ∀ (j : Nat) (u : Value), (x3C t)[j]? = some u → isWord u = false := by
  intro j u h
  match j with
  | 0 => cases h; rfl
  | 1 => cases h; rfl
  | 2 => cases h; rfl
  | n + 3 => simp at h
theorem x3_nw' (t : X3) : ∀ u ∈ x3L t, isWord u = false := by
  intro u hu; simp [x3L] at hu; rcases hu with rfl | rfl | rfl <;> rfl
end Ch
end Go.Proofs.YtmnmepbljegjeaaGreatDoor
namespace Go.Proofs.YtmnmepbljegjeaaGreatDoor
open Go.RowKit
namespace Ch
open _root_.Go.Proofs.YtmnmepbljegjeaaGreatDoor.Nm
def Sz (q : Rat) : Prop := wlen q.num.natAbs ≤ 100000000 ∧ wlen q.den ≤ 100000000
abbrev BB : Nat := 20000000000
theorem Fit.sz {k : Nat} {q : Rat} (hk : k ≤ 9) (h : Fit (1000000 ^ k) (BB ^ k) q) : Sz q := by
  obtain ⟨h1, h2⟩ := h.bound
  have e1 : 1000000 ^ k ≤ 1000000 ^ 9 := Nat.pow_le_pow_right (by omega) hk
  have e2 : BB ^ k ≤ BB ^ 9 := Nat.pow_le_pow_right (by decide) hk
  constructor
  · have : wlen q.num.natAbs ≤ 20 := wlen_le (Nat.lt_of_le_of_lt (Nat.le_trans h1 e2) (by decide))
    omega
  · have : wlen q.den ≤ 20 := wlen_le (Nat.lt_of_le_of_lt (Nat.le_trans h2 e1) (by decide))
    omega
theorem pow_ne (k : Nat) : 1000000 ^ k ≠ 0 := Nat.pos_iff_ne_zero.1 (Nat.pow_pos (by omega))
variable {dec : Pt → Bool} {u d e : Rat} {n : Nat}
theorem grid_len : ∀ n, (grid n).length = (n + 1) * (n + 1) := by
  intro n
  unfold grid
  have key : ∀ l : List Nat, (l.flatMap fun x => (List.range (n + 1)).map fun y => ((x, y) : Pt)).length = l.length * (n + 1) := by
    intro l
    induction l with
    | nil => simp
    | cons x l ih => rw [List.flatMap_cons, List.length_append, ih, List.length_map, List.length_range, List.length_cons, Nat.add_mul]; omega
  rw [key, List.length_range]
theorem flat_len (f : Pt → Rat) (l : List Pt) : (l.flatMap (out u d e f)).length = 3 * l.length := by
  induction l with
  | nil => rfl
  | cons a l ih =>
    rw [List.flatMap_cons, List.length_append, ih, List.length_cons]
    have : (out u d e f a).length = 3 := rfl
    omega
section
variable (hu : Fit 1000000 1000000 u) (hd : Fit 1000000 1000000 d) (he : Fit 1000000 1000000 e)
include hu hd he
theorem flat_fit {f : Pt → Rat} {k : Nat} (hf : ∀ a, Fit (1000000 ^ k) (BB ^ k) (f a)) (l : List Pt) : ∀ c ∈ l.flatMap (out u d e f), Fit (1000000 ^ (k + 1)) (BB ^ k * 1000000) c.2 := by
  intro c hc
  obtain ⟨a, _, hc⟩ := List.mem_flatMap.1 hc
  rw [Nat.pow_succ]
  exact out_fit hf hu hd he a c hc
omit hu hd he in
theorem at_fit {C : List (Pt × Rat)} {k : Nat} (hC : ∀ c ∈ C, Fit (1000000 ^ (k + 1)) (BB ^ k * 1000000) c.2) (hl : C.length ≤ 19683) (t : Pt) : Fit (1000000 ^ (k + 1)) (BB ^ (k + 1)) (at_ C t) := by
  refine (Fit.at_ (pow_ne _) hC t).mono ?_
  rw [Nat.pow_succ]
  have h1 : C.length * (BB ^ k * 1000000) ≤ 19683 * (BB ^ k * 1000000) := Nat.mul_le_mul_right _ hl
  have h2 : BB ^ k * BB = 20000 * (BB ^ k * 1000000) := by
    rw [show BB = 20000 * 1000000 from rfl, ← Nat.mul_assoc, Nat.mul_comm ((20000 * 1000000) ^ k) 20000, Nat.mul_assoc]
  omega
omit hu hd he in
theorem dec_fit {C : List (Pt × Rat)} {k : Nat} {s : Rat} (hs : Fit (1000000 ^ k) (BB ^ k) s) (hC : ∀ c ∈ C, Fit (1000000 ^ (k + 1)) (BB ^ k * 1000000) c.2) (hl : C.length ≤ 19683) : Fit (1000000 ^ (k + 1)) (BB ^ (k + 1)) (s + dec_ dec C) := by
  have h0 := hs.scale (c := 1000000) (by omega)
  rw [← Nat.pow_succ] at h0
  refine (h0.add (Fit.dec_ (pow_ne _) hC dec)).mono ?_
  rw [Nat.pow_succ BB]
  have h1 : C.length * (BB ^ k * 1000000) ≤ 19683 * (BB ^ k * 1000000) := Nat.mul_le_mul_right _ hl
  have h2 : BB ^ k * BB = 20000 * (BB ^ k * 1000000) := by
    rw [show BB = 20000 * 1000000 from rfl, ← Nat.mul_assoc, Nat.mul_comm ((20000 * 1000000) ^ k) 20000, Nat.mul_assoc]
  omega
theorem ch_fit (hn : n ≤ 8) : ∀ k, (∀ a, Fit (1000000 ^ k) (BB ^ k) (chF dec u d e n k a)) ∧ Fit (1000000 ^ k) (BB ^ k) (chS dec u d e n k)
  | 0 => ⟨fun a => by
      unfold chF
      split
      · exact Fit.int (n := 1) (by decide)
      · exact Fit.zero (by decide) _, Fit.zero (by decide) _⟩
  | k + 1 => by
    obtain ⟨h1, h2⟩ := ch_fit hn k
    have hl : ((grid n).flatMap (out u d e (chF dec u d e n k))).length ≤ 19683 := by
      rw [flat_len, grid_len]
      have : (n + 1) * (n + 1) ≤ 9 * 9 := Nat.mul_le_mul (by omega) (by omega)
      omega
    have hC := flat_fit hu hd he h1 (grid n)
    refine ⟨fun a => ?_, ?_⟩
    · show Fit _ _ (nextF dec u d e n (chF dec u d e n k) a)
      unfold nextF
      split
      · exact Fit.zero (pow_ne _) _
      · exact at_fit hC hl a
    · exact dec_fit h2 hC hl
end
/-- the sum so far, in its block -/
def Sum (w : World) (b : Nat) (s : Rat) : Prop := (∃ t, Box w b (x3C t) ∧ XR w (x3V t) s) ∧ Fre w b
theorem Sum.fr {X : Nat → Prop} {w w' : World} {b : Nat} {s : Rat} (h : Sum w b s) (hf : Fr X w w') (hX : ¬ X b) : Sum w' b s := by
  obtain ⟨⟨t, h1, h2⟩, h3⟩ := h
  exact ⟨⟨t, hf.box h1 hX, hf.xr h2⟩, hf.fre h1 h3 hX⟩
theorem Sum.ext {w w' : World} {b : Nat} {s : Rat} (h : Sum w b s) (hb : Below w.heap.size w w') : Sum w' b s := by
  obtain ⟨⟨t, h1, h2⟩, h3⟩ := h
  exact ⟨⟨t, h1.ext hb, h2.ext hb⟩, h3.ext h1 hb⟩
theorem frozen_set3 {w : World} {b : Nat} (v0 v1 v2 : Value) (p : Addr) : (((w.setCell ⟨b, 0, none⟩ v0).setCell ⟨b, 1, none⟩ v1).setCell ⟨b, 2, none⟩ v2).frozen? p = w.frozen? p := by
  rw [World.frozen?_setCell, World.frozen?_setCell, World.frozen?_setCell]
theorem box_set3 {w : World} {b : Nat} {t : X3} (h : Box w b (x3C t)) (t' : X3) : Box (((w.setCell ⟨b, 0, none⟩ (.bool t'.b)).setCell ⟨b, 1, none⟩ (.slice t'.a1 t'.n1 t'.c1)).setCell ⟨b, 2, none⟩ (.slice t'.a2 t'.n2 t'.c2)) b (x3C t') := by
  refine ⟨by simp; exact h.1, fun j => ?_⟩
  obtain ⟨e0, e1, e2⟩ := three_set (.bool t'.b) (.slice t'.a1 t'.n1 t'.c1) (.slice t'.a2 t'.n2 t'.c2) (h.2 0) (h.2 1) (h.2 2)
  match j with
  | 0 => exact e0
  | 1 => exact e1
  | 2 => exact e2
  | j + 3 =>
    have h3 := h.2 (j + 3)
    rw [World.cell?_setCell_other _ _ _ _ (by simp), World.cell?_setCell_other _ _ _ _ (by simp), World.cell?_setCell_other _ _ _ _ (by simp), h3]
    simp
theorem sum_set {w : World} {b : Nat} {t t' : X3} {s : Rat} (h : Box w b (x3C t)) (hF : Fre w b) (hx : XR w (x3V t') s) : Sum (((w.setCell ⟨b, 0, none⟩ (.bool t'.b)).setCell ⟨b, 1, none⟩ (.slice t'.a1 t'.n1 t'.c1)).setCell ⟨b, 2, none⟩ (.slice t'.a2 t'.n2 t'.c2)) b s :=
  ⟨⟨t', box_set3 h t', hx.kp (Kp.set3 h (x3_nw t) _ _ _)⟩, fun j => by rw [frozen_set3]; exact hF j⟩
/-- what holds at the start of a round over the pairs -/
structure R1 (w wr : World) (dr : Int) (bets : Nat) (q : Rat) (b : Bool) (a1 : Option Addr) (n1 c1 : Nat) (a2 : Option Addr) (n2 c2 : Nat) (bu bs base : Nat) (tu : X3) (unit : Rat) (f : Pt → Rat) (S : Nat → Rat) (m : Nat) (l : List (Pt × Value)) (vo : Value) (ts : List X3) (k : Nat) : Prop where
  low : Below w.heap.size w wr
  bet : Box wr w.heap.size (betA dr bets b a1 n1 c1 a2 n2 c2)
  bok : Bett wr dr bets q b a1 n1 c1 a2 n2 c2
  un : Box wr bu (x3C tu)
  xu : XR wr (x3V tu) unit
  sum : Sum wr bs (S k)
  opn : Open f k wr m l
  own : wr.ownsRow base 88 3 vo (k + 1) (ts.flatMap x3L)
  rq : RowQ (fun u => isWord u = false) wr vo
  tl : ts.length = k + 1
  tv : ∀ (i : Nat) (t : X3), ts[i]? = some t → XR wr (x3V t) (S i)
  l1 : w.heap.size < bu
  l2 : bu < bs
  l3 : bs < base
  l4 : base ≤ wr.heap.size
  lm : w.heap.size ≤ m
theorem Bett.kp {w w' : World} {d : Int} {bets : Nat} {q : Rat} {b : Bool} {a1 : Option Addr} {n1 c1 : Nat} {a2 : Option Addr} {n2 c2 : Nat} (h : Bett w d bets q b a1 n1 c1 a2 n2 c2) (hk : Kp w w') : Bett w' d bets q b a1 n1 c1 a2 n2 c2 :=
  ⟨h.d1, h.d3, h.b1, h.b5, h.need.kp hk, h.s1, h.s2⟩
theorem Next.fr {X : Nat → Prop} {dec : Pt → Bool} {w w' : World} {m : Nat} {C : List (Pt × Rat)} {l : List (Pt × Value)} (h : Next dec w m C l) (hf : Fr X w w') (hX : ¬ X m) : Next dec w' m C l := h.keep (hf.map h.map hX) hf.word
theorem Open.fr {X : Nat → Prop} {f : Pt → Rat} {k : Nat} {w w' : World} {m : Nat} {l : List (Pt × Value)} (h : Open f k w m l) (hf : Fr X w w') (hX : ¬ X m) : Open f k w' m l := ⟨hf.map h.map hX, h.nd, fun p hp => ⟨hf.xr (h.val p hp).1, (h.val p hp).2⟩, h.all, h.len⟩
/-- a row's block is no map, and no iterator -/
theorem owns_ne_map {α β : Type} {kv : α → Value} {vv : β → Value} {w : World} {base e size n m : Nat} {v : Value} {xs : List Value} {l : List (α × β)} (ho : w.ownsRow base e size v n xs) (hm : MapIs kv vv w m l) : v.ownBlock ≠ some m := by
  intro he
  obtain ⟨_, ⟨rfl, _⟩ | ⟨g, cap, cur, rfl, hb, hg, _⟩⟩ := ho
  · cases he
  · cases he
    obtain ⟨_, _, h1, _⟩ := hm
    rw [hg] at h1; cases h1
theorem ownsRow_new (w : World) (A : Array Value) (t : TypeId) (size : Nat) (hs : A.size = size) : (w.alloc (.cells A t)).ownsRow w.heap.size t size (.slice (some ⟨w.heap.size, 0, none⟩) 1 1) 1 A.toList :=
  ⟨by simp [hs], .inr ⟨w.heap.size, 1, A, rfl, Nat.le_refl _, by show (w.heap.push _)[w.heap.size]? = _; simp, Nat.le_refl _, by decide, by simp [hs], by rw [Nat.one_mul, ← hs, ← Array.length_toList, List.take_length]⟩⟩
def seenN (w : World) (it : Nat) : Nat := match w.heap[it]? with | some (.mapIter _ _ seen _) => seen.size | _ => 0
theorem RangeIs.seenN {α β : Type} {kv : α → Value} {vv : β → Value} {w : World} {m it : Nat} {l done : List (α × β)} (h : RangeIs kv vv w m it l done) : seenN w it = done.length := by
  obtain ⟨es, Z, D, R, clock, since, c0, seen, k1, k2, k3, k4, k5, k6, k7, k7', k8, k9, k10, k11⟩ := h
  unfold Ch.seenN
  rw [k2, k11]
  have := congrArg List.length k10
  simpa using this
end Ch
end Go.Proofs.YtmnmepbljegjeaaGreatDoor
namespace Go.Proofs.YtmnmepbljegjeaaGreatDoor
open Go.RowKit
namespace Ch
open _root_.Go.Proofs.YtmnmepbljegjeaaGreatDoor.Nm
section
variable {P : Program} {w : World} {ops : Array Oper} {rest : List Oper} {o : Oper} {a : Act} {Q : Exit → Act → World → Prop}
theorem wpList_next_run (hg : o.guard = none) (x : Operand) (hop : o.op = Op.next x false) {it : Nat} (hx : a.eval x = .pointer (some ⟨it, 0, none⟩)) {v : Value} {w' : World} (h : (Instr.next (.pointer (some ⟨it, 0, none⟩)) false o.type).run P w = .ok v w')
    (hK : wpList P ops Q rest (a.put o.dst v) w') : wpList P ops Q (o :: rest) a w := by
  refine wpList_plain hg fun K' hK' => ?_
  unfold Oper.wp
  simp [execOp, hop, hx, h, Result.andThen]
  exact hK' _ _ hK
end
theorem Fr.trans2 {X Y : Nat → Prop} {w w' w'' : World} (h : Fr X w w') (k : Fr Y w' w'') (hY : ∀ z, z < w.heap.size → Y z → X z) : Fr X w w'' :=
  ⟨k.os.trans h.os, k.tape.trans h.tape, k.output.trans h.output, fun i hi hX => (k.block i (Nat.lt_of_lt_of_le hi h.size) (fun y => hX (hY i hi y))).trans (h.block i hi hX), h.word.trans k.word⟩
structure R3 (w wx : World) (d : Int) (bets : Nat) (q : Rat) (b : Bool) (a1 : Option Addr) (n1 c1 : Nat) (a2 : Option Addr) (n2 c2 : Nat) (bu bt bp bl : Nat) (tu tp : X3) (uq fq : Rat) (p1 p2 U V E : Nat) : Prop where
  low : w.heap.size < wx.heap.size
  bet : Box wx w.heap.size (betA d bets b a1 n1 c1 a2 n2 c2)
  bok : Bett wx d bets q b a1 n1 c1 a2 n2 c2
  un : Box wx bu (x3C tu)
  xu : XR wx (x3V tu) uq
  at_ : Box wx bt #[.int .i64 (p1 : Int), .int .i64 (p2 : Int)]
  pr : Box wx bp (x3C tp)
  xp : XR wx (x3V tp) fq
  ls : Box wx bl #[.int .i64 (U : Int), .int .i64 (V : Int), .int .i64 (E : Int)]
section
variable {w wx wy : World} {d : Int} {bets : Nat} {q : Rat} {b : Bool} {a1 : Option Addr} {n1 c1 : Nat} {a2 : Option Addr} {n2 c2 : Nat} {bu bt bp bl : Nat} {tu tp : X3} {uq fq : Rat} {p1 p2 U V E : Nat}
theorem R3.ext (h : R3 w wx d bets q b a1 n1 c1 a2 n2 c2 bu bt bp bl tu tp uq fq p1 p2 U V E) (hb : Below wx.heap.size wx wy) : R3 w wy d bets q b a1 n1 c1 a2 n2 c2 bu bt bp bl tu tp uq fq p1 p2 U V E :=
  ⟨Nat.lt_of_lt_of_le h.low hb.size, h.bet.ext hb, h.bok.ext hb, h.un.ext hb, h.xu.ext hb, h.at_.ext hb, h.pr.ext hb, h.xp.ext hb, h.ls.ext hb⟩
theorem R3.fr {X : Nat → Prop} (h : R3 w wx d bets q b a1 n1 c1 a2 n2 c2 bu bt bp bl tu tp uq fq p1 p2 U V E) (hf : Fr X wx wy) (h1 : ¬ X w.heap.size) (h2 : ¬ X bu) (h3 : ¬ X bt) (h4 : ¬ X bp) (h5 : ¬ X bl) : R3 w wy d bets q b a1 n1 c1 a2 n2 c2 bu bt bp bl tu tp uq fq p1 p2 U V E :=
  ⟨Nat.lt_of_lt_of_le h.low hf.size, hf.box h.bet h1, Bett.kp h.bok hf.word, hf.box h.un h2, hf.xr h.xu, hf.box h.at_ h3, hf.box h.pr h4, hf.xr h.xp, hf.box h.ls h5⟩
end
theorem box2_0 {w : World} {b : Nat} {u v : Value} (h : Box w b #[u, v]) (x : Value) : Box (w.setCell ⟨b, 0, none⟩ x) b #[x, v] := by
  refine ⟨by simp; exact h.1, fun j => ?_⟩
  match j with
  | 0 => have h0 := h.2 0; exact World.cell?_setCell_same _ _ _ h0
  | 1 => rw [World.cell?_setCell_other _ _ _ _ (by simp)]; exact h.2 1
  | j + 2 => rw [World.cell?_setCell_other _ _ _ _ (by simp)]; exact h.2 (j + 2)
theorem box2_1 {w : World} {b : Nat} {u v : Value} (h : Box w b #[u, v]) (x : Value) : Box (w.setCell ⟨b, 1, none⟩ x) b #[u, x] := by
  refine ⟨by simp; exact h.1, fun j => ?_⟩
  match j with
  | 0 => rw [World.cell?_setCell_other _ _ _ _ (by simp)]; exact h.2 0
  | 1 => have h0 := h.2 1; exact World.cell?_setCell_same _ _ _ h0
  | j + 2 => rw [World.cell?_setCell_other _ _ _ _ (by simp)]; exact h.2 (j + 2)
/-- the contributions but for the last of a pair -/
def part (u d e : Rat) (f : Pt → Rat) (done : List (Pt × Value)) (p : Pt) (j : Nat) : List (Pt × Rat) := outs u d e f done ++ (out u d e f p).take j
theorem part_zero (u d e : Rat) (f : Pt → Rat) (done : List (Pt × Value)) (p : Pt) : part u d e f done p 0 = outs u d e f done := by simp [part]
theorem part_three (u d e : Rat) (f : Pt → Rat) (done : List (Pt × Value)) (p : Pt × Value) : part u d e f done p.1 3 = outs u d e f (done ++ [p]) := by
  rw [outs_snoc]; rfl
theorem part_1 (u d e : Rat) (f : Pt → Rat) (done : List (Pt × Value)) (p1 p2 : Nat) : part u d e f done (p1, p2) 1 = part u d e f done (p1, p2) 0 ++ [((p1 + 1, p2), f (p1, p2) * u)] := by
  unfold part; simp [out, tr]
theorem part_2 (u d e : Rat) (f : Pt → Rat) (done : List (Pt × Value)) (p1 p2 : Nat) : part u d e f done (p1, p2) 2 = part u d e f done (p1, p2) 1 ++ [((p1, p2 + 1), f (p1, p2) * d)] := by
  unfold part; simp [out, tr]
theorem part_3 (u d e : Rat) (f : Pt → Rat) (done : List (Pt × Value)) (p1 p2 : Nat) : part u d e f done (p1, p2) 3 = part u d e f done (p1, p2) 2 ++ [((p1, p2), f (p1, p2) * e)] := by
  unfold part; simp [out, tr]
theorem part_mem {u d e : Rat} {f : Pt → Rat} {done : List (Pt × Value)} {p : Pt} {j : Nat} : ∀ c ∈ part u d e f done p j, c ∈ ((done.map (·.1)) ++ [p]).flatMap (out u d e f) := by
  intro c hc
  unfold part outs at hc
  rw [List.flatMap_append]
  rcases List.mem_append.1 hc with hc | hc
  · exact List.mem_append_left _ hc
  · refine List.mem_append_right _ ?_
    simp; exact List.mem_of_mem_take hc
theorem part_len {u d e : Rat} {f : Pt → Rat} {done : List (Pt × Value)} {p : Pt} {j : Nat} : (part u d e f done p j).length ≤ 3 * (done.length + 1) := by
  unfold part
  rw [List.length_append, outs_len, List.length_take]
  have : (out u d e f p).length = 3 := rfl
  omega
end Ch
end Go.Proofs.YtmnmepbljegjeaaGreatDoor
