/- The chances' numbers are short: multiples of 1 / 10^(6 k), bounded. Plain mathematics. The chances' maps and numbers, as they lie in memory. capitals of package decide. -/
import Derived.Test.YtilolnjbpokdnaaGreatDoorBq03
import Derived.Test.YtilolnjbpokdnaaGreatDoorBq02
import Derived.Test.YtilolnjbpokdnaaGreatDoorBq31
import Derived.Test.YtilolnjbpokdnaaGreatDoorBq26
import Derived.Test.YtilolnjbpokdnaaGreatDoorProg
import Derived.Test.YtilolnjbpokdnaaGreatDoorBq00
import Derived.Test.YtilolnjbpokdnaaGreatDoorBq01
import Derived.Test.YtilolnjbpokdnaaGreatDoorBq04
import Derived.Test.YtilolnjbpokdnaaGreatDoorBq05
import Derived.Deep.Cut
namespace Go.Proofs.YtilolnjbpokdnaaGreatDoor
namespace Ch
open _root_.Go.Proofs.YtilolnjbpokdnaaGreatDoor.Nm
/-- q is m / D with m at most M. -/
def Fit (D M : Nat) (q : Rat) : Prop := D ≠ 0 ∧ ∃ m : Nat, m ≤ M ∧ q = mkRat (m : Int) D
theorem Fit.zero {D : Nat} (hD : D ≠ 0) (M : Nat) : Fit D M 0 := ⟨hD, 0, Nat.zero_le _, by simp⟩
theorem Fit.mono {D M M' : Nat} {q : Rat} (h : Fit D M q) (hM : M ≤ M') : Fit D M' q := by
  obtain ⟨hD, m, hm, rfl⟩ := h; exact ⟨hD, m, Nat.le_trans hm hM, rfl⟩
theorem Fit.scale {D M : Nat} {q : Rat} (h : Fit D M q) {c : Nat} (hc : c ≠ 0) : Fit (D * c) (M * c) q := by
  obtain ⟨hD, m, hm, rfl⟩ := h
  refine ⟨Nat.mul_ne_zero hD hc, m * c, Nat.mul_le_mul_right _ hm, ?_⟩
  rw [Int.natCast_mul, Rat.mkRat_mul_right hc]
theorem Fit.add {D M N : Nat} {p q : Rat} (h : Fit D M p) (k : Fit D N q) : Fit D (M + N) (p + q) := by
  obtain ⟨hD, m, hm, rfl⟩ := h
  obtain ⟨_, n, hn, rfl⟩ := k
  refine ⟨hD, m + n, by omega, ?_⟩
  rw [Rat.mkRat_add_mkRat _ _ hD hD, ← Int.add_mul, Rat.mkRat_mul_right hD, Int.natCast_add]
theorem Fit.mul {D E M N : Nat} {p q : Rat} (h : Fit D M p) (k : Fit E N q) : Fit (D * E) (M * N) (p * q) := by
  obtain ⟨hD, m, hm, rfl⟩ := h
  obtain ⟨hE, n, hn, rfl⟩ := k
  refine ⟨Nat.mul_ne_zero hD hE, m * n, Nat.mul_le_mul hm hn, ?_⟩
  rw [Rat.mkRat_mul_mkRat, Int.natCast_mul]
theorem Fit.int {n M : Nat} (h : n ≤ M) : Fit 1 M ((n : Int) : Rat) := ⟨by omega, n, h, by rw [Rat.mkRat_one]⟩
theorem Fit.bound {D M : Nat} {q : Rat} (h : Fit D M q) : q.num.natAbs ≤ M ∧ q.den ≤ D := by
  obtain ⟨hD, m, hm, rfl⟩ := h
  have e : mkRat (m : Int) D = Rat.normalize (sgn false m) D hD := by rw [Rat.normalize_eq_mkRat]; rfl
  rw [e, norm_abs, norm_den]
  exact ⟨Nat.le_trans (Nat.div_le_self _ _) hm, Nat.div_le_self _ _⟩
theorem Fit.sum {D M : Nat} (hD : D ≠ 0) : ∀ {l : List Rat}, (∀ x ∈ l, Fit D M x) → Fit D (l.length * M) (sumL l)
  | [], _ => Fit.zero hD _
  | x :: l, h => by
    have h1 := h x (by simp)
    have h2 := Fit.sum hD (l := l) (fun y hy => h y (by simp [hy]))
    have := h1.add h2
    rw [List.length_cons, Nat.add_mul, Nat.one_mul, Nat.add_comm]; exact this
theorem Fit.at_ {D M : Nat} (hD : D ≠ 0) {C : List (Pt × Rat)} (h : ∀ c ∈ C, Fit D M c.2) (t : Pt) : Fit D (C.length * M) (at_ C t) := by
  refine (Fit.sum (M := M) hD fun x hx => ?_).mono (Nat.mul_le_mul_right _ ?_)
  · obtain ⟨c, hc, rfl⟩ := List.mem_map.1 hx; exact h c (List.mem_filter.1 hc).1
  · rw [List.length_map]; exact List.length_filter_le _ _
theorem Fit.dec_ {D M : Nat} (hD : D ≠ 0) {C : List (Pt × Rat)} (h : ∀ c ∈ C, Fit D M c.2) (dec : Pt → Bool) : Fit D (C.length * M) (dec_ dec C) := by
  refine (Fit.sum (M := M) hD fun x hx => ?_).mono (Nat.mul_le_mul_right _ ?_)
  · obtain ⟨c, hc, rfl⟩ := List.mem_map.1 hx; exact h c (List.mem_filter.1 hc).1
  · rw [List.length_map]; exact List.length_filter_le _ _
theorem out_fit {u d e : Rat} {f : Pt → Rat} {D M N : Nat} (hf : ∀ a, Fit D M (f a)) (hu : Fit 1000000 N u) (hd : Fit 1000000 N d) (he : Fit 1000000 N e) (a : Pt) : ∀ c ∈ out u d e f a, Fit (D * 1000000) (M * N) c.2 := by
  intro c hc
  unfold out tr at hc
  simp only [List.map_cons, List.map_nil, List.mem_cons, List.not_mem_nil, or_false] at hc
  rcases hc with rfl | rfl | rfl
  · exact (hf a).mul hu
  · exact (hf a).mul hd
  · exact (hf a).mul he
end Ch
end Go.Proofs.YtilolnjbpokdnaaGreatDoor
namespace Go.Proofs.YtilolnjbpokdnaaGreatDoor
open Go.RowKit
namespace Ch
open _root_.Go.Proofs.YtilolnjbpokdnaaGreatDoor.Nm
section
variable {α β : Type} [DecidableEq α]
theorem putL_keys (l : List (α × β)) (x : α) (y : β) : (putL l x y).map (·.1) = if x ∈ l.map (·.1) then l.map (·.1) else l.map (·.1) ++ [x] := by
  induction l with
  | nil => simp [putL]
  | cons p l ih =>
    unfold putL
    by_cases h : x = p.1
    · simp [h]
    · rw [if_neg h, List.map_cons, ih]
      by_cases hm : x ∈ l.map (·.1)
      · rw [if_pos hm, if_pos (by simp only [List.map_cons, List.mem_cons]; exact .inr hm)]; rfl
      · rw [if_neg hm, if_neg (by simp only [List.map_cons, List.mem_cons]; exact fun e => e.elim h hm)]; rfl
theorem putL_mem {l : List (α × β)} (hn : (l.map (·.1)).Nodup) {x : α} {y : β} {p : α × β} (h : p ∈ putL l x y) : p = (x, y) ∨ (p ∈ l ∧ p.1 ≠ x) := by
  induction l with
  | nil => simp [putL] at h; exact .inl h
  | cons q l ih =>
    rw [List.map_cons, List.nodup_cons] at hn
    unfold putL at h
    by_cases hx : x = q.1
    · rw [if_pos hx] at h
      rcases List.mem_cons.1 h with h | h
      · exact .inl h
      · exact .inr ⟨List.mem_cons_of_mem _ h, fun e => hn.1 (by rw [← hx, ← e]; exact List.mem_map_of_mem h)⟩
    · rw [if_neg hx] at h
      rcases List.mem_cons.1 h with rfl | h
      · exact .inr ⟨List.mem_cons_self .., fun e => hx e.symm⟩
      · rcases ih hn.2 h with h | ⟨h, h'⟩
        · exact .inl h
        · exact .inr ⟨List.mem_cons_of_mem _ h, h'⟩
theorem look_mem {l : List (α × β)} {x : α} {y : β} (h : look l x = some y) : (x, y) ∈ l := by
  induction l with
  | nil => cases h
  | cons p l ih =>
    unfold look at h ih
    rw [List.find?_cons] at h
    by_cases hx : x = p.1
    · simp only [hx, decide_true, Option.map_some, Option.some.injEq] at h
      rw [hx, ← h]; exact List.mem_cons_self ..
    · simp only [hx, decide_false] at h
      exact List.mem_cons_of_mem _ (ih h)
theorem look_none {l : List (α × β)} {x : α} (h : look l x = none) : x ∉ l.map (·.1) := by
  induction l with
  | nil => simp
  | cons p l ih =>
    unfold look at h ih
    rw [List.find?_cons] at h
    by_cases hx : x = p.1
    · simp [hx] at h
    · simp only [hx, decide_false] at h
      simp only [List.map_cons, List.mem_cons]
      rintro (e | e)
      · exact hx e
      · exact ih h e
end
/-- the map of what is open, after the contributions C -/
structure Next (dec : Pt → Bool) (w : World) (m : Nat) (C : List (Pt × Rat)) (l : List (Pt × Value)) : Prop where
  map : MapIs ptV id w m l
  nd : (l.map (·.1)).Nodup
  val : ∀ p ∈ l, XR w p.2 (at_ C p.1) ∧ dec p.1 = false ∧ ∃ c ∈ C, c.1 = p.1
  all : ∀ c ∈ C, dec c.1 = false → c.1 ∈ l.map (·.1)
  len : l.length ≤ C.length
variable {dec : Pt → Bool} {w w' : World} {m : Nat} {C : List (Pt × Rat)} {l : List (Pt × Value)}
theorem Next.start (dec : Pt → Bool) (h : MapIs ptV id w m []) : Next dec w m [] [] := ⟨h, by simp, (fun p hp => by cases hp), (fun c hc => by cases hc), Nat.le_refl _⟩
theorem Next.keep (h : Next dec w m C l) (hm : MapIs ptV id w' m l) (hk : Kp w w') : Next dec w' m C l := ⟨hm, h.nd, fun p hp => ⟨(h.val p hp).1.kp hk, (h.val p hp).2⟩, h.all, h.len⟩
theorem Next.ext (h : Next dec w m C l) (hb : Below w.heap.size w w') : Next dec w' m C l := h.keep (h.map.ext hb) (Kp.ext hb)
theorem Next.skip (h : Next dec w m C l) {c : Pt × Rat} (hc : dec c.1 = true) : Next dec w m (C ++ [c]) l := by
  refine ⟨h.map, h.nd, fun p hp => ?_, fun d hd hx => ?_, by rw [List.length_append]; exact Nat.le_trans h.len (Nat.le_add_right _ _)⟩
  · obtain ⟨h1, h2, e, he, h3⟩ := h.val p hp
    refine ⟨?_, h2, e, List.mem_append_left _ he, h3⟩
    rw [at_snoc, if_neg (fun e => by rw [e, h2] at hc; cases hc)]; exact h1
  · rcases List.mem_append.1 hd with hd | hd
    · exact h.all d hd hx
    · simp at hd; subst hd; rw [hc] at hx; cases hx
theorem at_none {t : Pt} (h : ∀ c ∈ C, c.1 ≠ t) : at_ C t = 0 := by
  unfold at_
  rw [List.filter_eq_nil_iff.2 (fun c hc => by simp [h c hc])]; rfl
theorem Next.none (h : Next dec w m C l) {t : Pt} (hd : dec t = false) (hl : look l t = none) : at_ C t = 0 :=
  at_none fun c hc e => look_none hl (by rw [← e]; exact h.all c hc (by rw [e]; exact hd))
theorem Next.some (h : Next dec w m C l) {t : Pt} {v : Value} (hl : look l t = some v) : XR w v (at_ C t) := (h.val _ (look_mem hl)).1
theorem Next.put (h : Next dec w m C l) {c : Pt × Rat} (hc : dec c.1 = false) {v : Value} (hv : XR w' v (at_ C c.1 + c.2)) (hm : MapIs ptV id w' m (putL l c.1 v)) (hk : Kp w w') : Next dec w' m (C ++ [c]) (putL l c.1 v) := by
  refine ⟨hm, ?_, fun p hp => ?_, fun d hd hx => ?_, by rw [List.length_append]; exact Nat.le_trans (putL_length l c.1 v) (Nat.add_le_add_right h.len 1)⟩
  · rw [putL_keys]
    split
    · exact h.nd
    · next hn =>
      refine List.nodup_append.2 ⟨h.nd, by simp, fun a ha b hb e => ?_⟩
      simp at hb; subst hb; subst e; exact hn ha
  · rcases putL_mem h.nd hp with rfl | ⟨hp, hne⟩
    · refine ⟨?_, hc, c, by simp, rfl⟩
      rw [at_snoc, if_pos rfl]; exact hv
    · obtain ⟨h1, h2, e, he, h3⟩ := h.val p hp
      refine ⟨?_, h2, e, List.mem_append_left _ he, h3⟩
      rw [at_snoc, if_neg (fun e => hne e.symm)]; exact h1.kp hk
  · rw [putL_keys]
    rcases List.mem_append.1 hd with hd | hd
    · split
      · exact h.all d hd hx
      · exact List.mem_append_left _ (h.all d hd hx)
    · simp at hd; subst hd
      split
      · next hn => exact hn
      · simp
/-- what is open after so many pairs: f says how much, at each place -/
structure Open (f : Pt → Rat) (k : Nat) (w : World) (m : Nat) (l : List (Pt × Value)) : Prop where
  map : MapIs ptV id w m l
  nd : (l.map (·.1)).Nodup
  val : ∀ p ∈ l, XR w p.2 (f p.1) ∧ p.1.1 + p.1.2 ≤ k
  all : ∀ a, a ∉ l.map (·.1) → f a = 0
  len : l.length ≤ 3 ^ k
theorem Open.ext {f : Pt → Rat} {k : Nat} (h : Open f k w m l) (hb : Below w.heap.size w w') : Open f k w' m l := ⟨h.map.ext hb, h.nd, fun p hp => ⟨(h.val p hp).1.ext hb, (h.val p hp).2⟩, h.all, h.len⟩
/-- the contributions of pairs of the map -/
def outs (u d e : Rat) (f : Pt → Rat) (done : List (Pt × Value)) : List (Pt × Rat) := (done.map (·.1)).flatMap (out u d e f)
theorem outs_snoc (u d e : Rat) (f : Pt → Rat) (done : List (Pt × Value)) (p : Pt × Value) : outs u d e f (done ++ [p]) = outs u d e f done ++ out u d e f p.1 := by
  unfold outs; rw [List.map_append, List.flatMap_append]; simp
theorem outs_len (u d e : Rat) (f : Pt → Rat) (done : List (Pt × Value)) : (outs u d e f done).length = 3 * done.length := by
  induction done with
  | nil => rfl
  | cons p l ih =>
    unfold outs at ih ⊢
    rw [List.map_cons, List.flatMap_cons, List.length_append, ih, List.length_cons]
    have : (out u d e f p.1).length = 3 := rfl
    omega
theorem out_near {u d e : Rat} {f : Pt → Rat} {a : Pt} {c : Pt × Rat} (h : c ∈ out u d e f a) : c.1.1 + c.1.2 ≤ a.1 + a.2 + 1 := by
  unfold out tr at h
  simp only [List.map_cons, List.map_nil, List.mem_cons, List.not_mem_nil, or_false] at h
  rcases h with rfl | rfl | rfl <;> simp <;> omega
/-- a whole round: what is open next, and what has been decided -/
theorem Next.done {u d e : Rat} {f : Pt → Rat} {k n : Nat} {mo : Nat} {lo done : List (Pt × Value)} {wo : World} (h : Next dec w m (outs u d e f done) l) (ho : Open f k wo mo lo) (hp : done.Perm lo) (hk : k ≤ n) :
    Open (nextF dec u d e n f) (k + 1) w m l ∧ dec_ dec (outs u d e f done) = moreF dec u d e n f := by
  have hpk : (done.map (·.1)).Perm (lo.map (·.1)) := hp.map _
  have hkeys : ∀ a ∈ done.map (·.1), a.1 ≤ n ∧ a.2 ≤ n := fun a ha => by
    obtain ⟨p, hp', rfl⟩ := List.mem_map.1 (hpk.mem_iff.1 ha)
    have := (ho.val p hp').2
    omega
  have hnd : (done.map (·.1)).Nodup := hpk.nodup_iff.2 ho.nd
  have hz : ∀ a, a ∉ done.map (·.1) → f a = 0 := fun a ha => ho.all a (fun h => ha (hpk.mem_iff.2 h))
  have hat : ∀ t, at_ (outs u d e f done) t = at_ ((grid n).flatMap (out u d e f)) t := fun t => at_keys hnd hkeys hz t
  refine ⟨⟨h.map, h.nd, fun p hp' => ?_, fun a ha => ?_, ?_⟩, dec_keys dec hnd hkeys hz⟩
  · obtain ⟨h1, h2, c, hc, h3⟩ := h.val p hp'
    constructor
    · unfold nextF; rw [if_neg (by simp [h2]), ← hat]; exact h1
    · unfold outs at hc
      obtain ⟨b, hb, hc⟩ := List.mem_flatMap.1 hc
      obtain ⟨q, hq, rfl⟩ := List.mem_map.1 (hpk.mem_iff.1 hb)
      have h4 := (ho.val q hq).2
      have h5 := out_near hc
      rw [h3] at h5; omega
  · unfold nextF
    by_cases hd : dec a = true
    · rw [if_pos hd]
    · rw [if_neg hd, ← hat]
      refine at_none fun c hc e => ha ?_
      rw [← e]
      exact h.all c hc (by rw [e]; simpa using hd)
  · have h1 := h.len
    rw [outs_len, hp.length_eq] at h1
    have h2 := ho.len
    have h3 : 3 ^ (k + 1) = 3 * 3 ^ k := by rw [Nat.pow_succ, Nat.mul_comm]
    rw [h3]; omega
theorem Open.start (dec : Pt → Bool) (u d e : Rat) (n : Nat) {v : Value} (hm : MapIs ptV id w m [((0, 0), v)]) (hv : XR w v 1) : Open (chF dec u d e n 0) 0 w m [((0, 0), v)] := by
  refine ⟨hm, by simp, fun p hp => ?_, fun a ha => ?_, by simp⟩
  · simp at hp; subst hp; exact ⟨by simpa [chF] using hv, by simp⟩
  · simp at ha; unfold chF; rw [if_neg ha]
/-- three cells of an exact number -/
structure X3 where
  b : Bool
  a1 : Option Addr
  n1 : Nat
  c1 : Nat
  a2 : Option Addr
  n2 : Nat
  c2 : Nat
abbrev x3C (t : X3) : Array Value := #[.bool t.b, .slice t.a1 t.n1 t.c1, .slice t.a2 t.n2 t.c2]
abbrev x3V (t : X3) : Value := .agg #[.bool t.b, .slice t.a1 t.n1 t.c1, .slice t.a2 t.n2 t.c2]
def x3L (t : X3) : List Value := [.bool t.b, .slice t.a1 t.n1 t.c1, .slice t.a2 t.n2 t.c2]
theorem XR.x3 {w : World} {v : Value} {q : Rat} (h : XR w v q) : ∃ t : X3, v = x3V t ∧ XR w (x3V t) q := by
  obtain ⟨v1, v2, rfl, h1, h2⟩ := h
  have e1 : ∃ a n c, v1 = .slice a n c := by obtain ⟨a, c, hv, _⟩ := h1; exact ⟨a, _, c, hv⟩
  have e2 : ∃ a n c, v2 = .slice a n c := by obtain ⟨a, c, hv, _⟩ := h2; exact ⟨a, _, c, hv⟩
  obtain ⟨a1, n1, c1, rfl⟩ := e1
  obtain ⟨a2, n2, c2, rfl⟩ := e2
  exact ⟨⟨_, a1, n1, c1, a2, n2, c2⟩, rfl, ⟨_, _, rfl, h1, h2⟩⟩
theorem x3_one (t : X3) : ∀ u ∈ x3L t, u.oneCell' = true := by
  intro u hu; simp [x3L] at hu; rcases hu with rfl | rfl | rfl <;> rfl
theorem x3_nw (t : X3) : ∀ (j : Nat) (u : Value), (x3C t)[j]? = some u → isWord u = false := by
  intro j u h
  match j with
  | 0 => cases h; rfl
  | 1 => cases h; rfl
  | 2 => cases h; rfl
  | n + 3 => simp at h
theorem x3_nw' (t : X3) : ∀ u ∈ x3L t, isWord u = false := by
  intro u hu; simp [x3L] at hu; rcases hu with rfl | rfl | rfl <;> rfl
end Ch
end Go.Proofs.YtilolnjbpokdnaaGreatDoor
namespace Go.Proofs.YtilolnjbpokdnaaGreatDoor
open Go.RowKit
namespace Nm
/-- the sum of the first capitals -/
def capS (bets up down : Nat) : Nat → Nat
  | 0 => 0
  | k + 1 => capS bets up down k + (bets + 1 + (k + 1)) ^ up * (bets + 1 - (k + 1)) ^ down
def capN (bets up down : Nat) : Nat := capS bets up down bets
theorem power_is (z t : Int) (n ex : Nat) (hz : z = (n : Int)) (ht : t = (ex : Int)) (hn : n < 4294967296) (hto : ex ≤ 1000000) (w : World) : Calls Tryz.prog 177 #[.int .i64 z, .int .i64 t] w (NPost w (n ^ ex)) := by
  subst hz ht; exact power_at n ex hn hto w
theorem cap_term {n m up down : Nat} (hn : n ≤ 11) (hm : m ≤ 11) (hu : up ≤ 60) (hd : down ≤ 60) : n ^ up * m ^ down ≤ 11 ^ 120 := by
  have h1 : n ^ up ≤ 11 ^ 60 := Nat.le_trans (Nat.pow_le_pow_left hn up) (Nat.pow_le_pow_right (by decide) hu)
  have h2 : m ^ down ≤ 11 ^ 60 := Nat.le_trans (Nat.pow_le_pow_left hm down) (Nat.pow_le_pow_right (by decide) hd)
  rw [show (11 : Nat) ^ 120 = 11 ^ 60 * 11 ^ 60 from by decide]; exact Nat.mul_le_mul h1 h2
theorem capS_le (bets up down : Nat) (hb : bets ≤ 5) (hu : up ≤ 60) (hd : down ≤ 60) : ∀ k, k ≤ bets → capS bets up down k ≤ k * 11 ^ 120
  | 0, _ => by rw [show capS bets up down 0 = 0 from rfl]; exact Nat.zero_le _
  | k + 1, hk => by
    have h1 := capS_le bets up down hb hu hd k (by omega)
    have h2 := cap_term (n := bets + 1 + (k + 1)) (m := bets + 1 - (k + 1)) (by omega) (by omega) hu hd
    rw [Nat.add_mul, Nat.one_mul]
    exact Nat.add_le_add h1 h2
theorem capS_wlen (bets up down : Nat) (hb : bets ≤ 5) (hu : up ≤ 60) (hd : down ≤ 60) (k : Nat) (hk : k ≤ bets) : wlen (capS bets up down k) ≤ 14 := by
  apply wlen_le
  refine Nat.lt_of_le_of_lt (capS_le bets up down hb hu hd k hk) (Nat.lt_of_le_of_lt (Nat.mul_le_mul_right _ (show k ≤ 5 by omega)) ?_)
  decide
set_option maxHeartbeats 4000000 in
theorem capitals_at (d : Int) (bets up down : Nat) (hbt : bets ≤ 5) (hu : up ≤ 60) (hd : down ≤ 60) (b : Bool) (a1 : Option Addr) (n1 c1 : Nat) (a2 : Option Addr) (n2 c2 : Nat) (w : World) :
    Calls Tryz.prog 176 #[.agg (betA d bets b a1 n1 c1 a2 n2 c2), .int .i64 (up : Int), .int .i64 (down : Int)] w (NPost w (capN bets up down)) := by
  have hx1 := fun w => xnatOf_at 0 (by decide) w
  rw [show ((0 : Nat) : Int) = 0 from rfl] at hx1
  have HX1 := Lib.hid hx1
  clear hx1
  go_enter Tryz.func176, Tryz.ntmps176
  go_upto_region 1 with (fail)
  refine wp_box1 fun W hsz hbW hA => ?_
  clear hsz
  go_wp2_with fail
  refine (HX1.out _).mono ?_
  rintro e w1 ⟨v, rfl, hv, hb1⟩
  have hA1 := hA.ext hb1
  have hbw1 := ext_trans hbW hb1
  clear hb1 hA hbW
  go_wp2
  go_loopw [7, 8] (fun o i wr => ∃ k : Nat, k ≤ bets ∧ i = .int .i64 ((k + 1 : Nat) : Int) ∧ N wr o (capS bets up down k) ∧ Box wr w.heap.size (betA d bets b a1 n1 c1 a2 n2 c2) ∧ Below w.heap.size w wr) (fun _ i _ => bets + 1 - (intOf i).toNat)
  case atStart => exact ⟨0, by omega, rfl, hv, hA1, hbw1⟩
  case round =>
    obtain ⟨k, hk, rfl, ho, hB, hb⟩ := hrel
    clear hv hA1 hbw1
    obtain ⟨_, hB2⟩ := id hB
    have q1 : wr.cell? ⟨w.heap.size, 1, none⟩ = some (.int .i64 bets) := hB2 1
    clear hB2
    by_cases hlt : k < bets
    · have hwl := capS_wlen bets up down hbt hu hd k hk
      have hwp1 := wlen_pow (show bets + 1 + (k + 1) < B from by unfold B; omega) up
      have hwp2 := wlen_pow (show bets + 1 - (k + 1) < B from by unfold B; omega) down
      have hwm := wlen_mul ((bets + 1 + (k + 1)) ^ up) ((bets + 1 - (k + 1)) ^ down)
      have HW := Lib.hid (And.intro hwl (And.intro hwp1 (And.intro hwp2 hwm)))
      clear hwl hwp1 hwp2 hwm
      have HS : Hid (capS bets up down k + (bets + 1 + (k + 1)) ^ up * (bets + 1 - (k + 1)) ^ down = capS bets up down (k + 1)) := rfl
      have e1 : IntKind.i64.wrap ((bets : Int) + 1) = (bets : Int) + 1 := IntWalk.i64_in _ (by omega)
      have e2 : IntKind.i64.wrap ((bets : Int) + 1 + ((k : Int) + 1)) = (bets : Int) + 1 + ((k : Int) + 1) := IntWalk.i64_in _ (by omega)
      have e3 : IntKind.i64.wrap ((bets : Int) + 1 - ((k : Int) + 1)) = (bets : Int) + 1 - ((k : Int) + 1) := IntWalk.i64_in _ (by omega)
      have HO := Lib.hid ho
      have tok1 : True := trivial
      go_wp2_with fail
      generalize hX : wr = X at *
      clear hX
      go_region_held3 (S2R X w.heap.size w.heap.size (betA d bets b a1 n1 c1 a2 n2 c2) w.heap.size (betA d bets b a1 n1 c1 a2 n2 c2)) (first | exact S2R.start hB hB | exact S2R.ext (by with_reducible assumption) (by with_reducible assumption) (by omega) hB hB | assumption) (first | (have _t := tok1; go_at_call 177; refine (power_is _ _ (bets + 1 + (k + 1)) up (by omega) rfl (by omega) (by omega) _).mono ?_; rintro e w2 ⟨v2, rfl, h2, hb2⟩; have hc2 := Lib.hid (ext_trans (Below.refl X.heap.size X).drew hb2); have H2 := Lib.hid h2; clear tok1 h2) | (go_at_call 177; refine (power_is _ _ (bets + 1 - (k + 1)) down (by omega) rfl (by omega) (by omega) _).mono ?_; rintro e w3 ⟨v3, rfl, h3, hb3⟩; have hc3 := Lib.hid (ext_trans hc2.out hb3); have H23 := Lib.hid (H2.out.ext hb3); have H3 := Lib.hid h3; clear h3) | (go_at_call 122; refine (times_at _ _ _ _ _ H23.out H3.out (by have := HW.out; omega) (by have := HW.out; omega)).mono ?_; rintro e w4 ⟨v4, rfl, h4, hb4⟩; have hc4 := Lib.hid (ext_trans hc3.out hb4); have H4 := Lib.hid h4; clear h4) | (go_at_call 125; refine (add_at _ _ _ _ _ (HO.out.ext hc4.out) H4.out (by have := HW.out; omega) (by have := HW.out; omega)).mono ?_; rintro e w5 ⟨v5, rfl, h5, hb5⟩; have hc5 := Lib.hid (ext_trans hc4.out hb5); have H5 := Lib.hid h5; clear h5))
      go_wp2
      go_roundw
      case rel => exact ⟨k + 1, by omega, by go_num, by rw [← HS.out]; exact H5.out, hB.ext hc5.out, ext_trans hb hc5.out⟩
      case measure => simp [intOf]; omega
    · have hkb : k = bets := by omega
      subst hkb
      go_wp2
      go_ret
      exact ⟨_, rfl, ho, hb⟩
end Nm
end Go.Proofs.YtilolnjbpokdnaaGreatDoor
