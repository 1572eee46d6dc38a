/- The chances that a test is decided by so many pairs: plain mathematics. No program stands in it. Plain: a test is decided with at most its miss (Ville); more pairs never make it less likely. No program stands in it. -/
import Derived.Lib.Hide
namespace Go.Proofs.YtmnmepbljegjeaaGreatDoor
namespace Ch
def sumL : List Rat → Rat
  | [] => 0
  | x :: l => x + sumL l
theorem sumL_append (l m : List Rat) : sumL (l ++ m) = sumL l + sumL m := by
  induction l with
  | nil => simp [sumL, Rat.zero_add]
  | cons x l ih => simp only [List.cons_append, sumL, ih, Rat.add_assoc]
theorem sumL_perm {l m : List Rat} (h : l.Perm m) : sumL l = sumL m := by
  induction h with
  | nil => rfl
  | cons x _ ih => simp only [sumL, ih]
  | swap x y l => simp only [sumL]; rw [← Rat.add_assoc, ← Rat.add_assoc, Rat.add_comm x y]
  | trans _ _ h1 h2 => exact h1.trans h2
theorem sumL_zero {l : List Rat} (h : ∀ x ∈ l, x = 0) : sumL l = 0 := by
  induction l with
  | nil => rfl
  | cons x l ih => rw [sumL, h x (by simp), ih (fun y hy => h y (by simp [hy])), Rat.zero_add]
abbrev Pt := Nat × Nat
/-- where a pair leads, and with which probability -/
def tr (u d e : Rat) (a : Pt) : List (Pt × Rat) := [((a.1 + 1, a.2), u), ((a.1, a.2 + 1), d), (a, e)]
/-- what comes from a place -/
def out (u d e : Rat) (f : Pt → Rat) (a : Pt) : List (Pt × Rat) := (tr u d e a).map fun c => (c.1, f a * c.2)
/-- what arrives at a place -/
def at_ (C : List (Pt × Rat)) (t : Pt) : Rat := sumL ((C.filter fun c => decide (c.1 = t)).map (·.2))
/-- what arrives at places that are decided -/
def dec_ (dec : Pt → Bool) (C : List (Pt × Rat)) : Rat := sumL ((C.filter fun c => dec c.1).map (·.2))
theorem at_snoc (C : List (Pt × Rat)) (c : Pt × Rat) (t : Pt) : at_ (C ++ [c]) t = if c.1 = t then at_ C t + c.2 else at_ C t := by
  unfold at_
  rw [List.filter_append, List.map_append, sumL_append]
  by_cases h : c.1 = t <;> simp [h, sumL, Rat.add_zero]
theorem dec_snoc (dec : Pt → Bool) (C : List (Pt × Rat)) (c : Pt × Rat) : dec_ dec (C ++ [c]) = if dec c.1 then dec_ dec C + c.2 else dec_ dec C := by
  unfold dec_
  rw [List.filter_append, List.map_append, sumL_append]
  by_cases h : dec c.1 <;> simp [h, sumL, Rat.add_zero]
theorem at_append (C D : List (Pt × Rat)) (t : Pt) : at_ (C ++ D) t = at_ C t + at_ D t := by
  unfold at_; rw [List.filter_append, List.map_append, sumL_append]
theorem dec_append (dec : Pt → Bool) (C D : List (Pt × Rat)) : dec_ dec (C ++ D) = dec_ dec C + dec_ dec D := by
  unfold dec_; rw [List.filter_append, List.map_append, sumL_append]
/-- over a list of places -/
theorem at_flat (g : Pt → List (Pt × Rat)) (t : Pt) (l : List Pt) : at_ (l.flatMap g) t = sumL (l.map fun a => at_ (g a) t) := by
  induction l with
  | nil => rfl
  | cons a l ih => rw [List.flatMap_cons, at_append, ih]; rfl
theorem dec_flat (dec : Pt → Bool) (g : Pt → List (Pt × Rat)) (l : List Pt) : dec_ dec (l.flatMap g) = sumL (l.map fun a => dec_ dec (g a)) := by
  induction l with
  | nil => rfl
  | cons a l ih => rw [List.flatMap_cons, dec_append, ih]; rfl
/-- A sum over places without repetition, of what is 0 outside them, is the sum over any list without repetition that has them all. -/
theorem sum_over {h : Pt → Rat} : ∀ {l g : List Pt}, l.Nodup → g.Nodup → (∀ a ∈ l, a ∈ g) → (∀ a ∈ g, a ∉ l → h a = 0) → sumL (l.map h) = sumL (g.map h)
  | [], g, _, _, _, hz => by
    rw [sumL_zero (l := g.map h) (fun x hx => by obtain ⟨a, ha, rfl⟩ := List.mem_map.1 hx; exact hz a ha (by simp))]; rfl
  | a :: l, g, hl, hg, hs, hz => by
    obtain ⟨h1, h2⟩ := List.nodup_cons.1 hl
    obtain ⟨g1, g2, rfl⟩ := List.append_of_mem (hs a (by simp))
    have hp : (g1 ++ a :: g2).Perm (a :: (g1 ++ g2)) := List.perm_middle
    rw [sumL_perm (hp.map h)]
    have hn := (hp.nodup_iff).1 hg
    obtain ⟨k1, k2⟩ := List.nodup_cons.1 hn
    have hz' : ∀ b ∈ g1 ++ g2, b ∉ l → (fun b => if b = a then 0 else h b) b = 0 := fun b hbg hb => by
      by_cases e : b = a
      · simp [e]
      · simp only [e, if_false]; exact hz b (hp.mem_iff.2 (List.mem_cons_of_mem _ hbg)) (by simp [e, hb])
    have ih := sum_over (h := fun b => if b = a then 0 else h b) h2 k2 (fun b hb => by
      rcases List.mem_cons.1 (hp.mem_iff.1 (hs b (by simp [hb]))) with e | e
      · subst e; exact absurd hb h1
      · exact e) hz'
    have c1 : l.map (fun b => if b = a then 0 else h b) = l.map h := List.map_congr_left fun b hb => by
      have hne : b ≠ a := fun e => h1 (by rw [← e]; exact hb)
      simp only [hne, if_false]
    have c2 : (g1 ++ g2).map (fun b => if b = a then 0 else h b) = (g1 ++ g2).map h := List.map_congr_left fun b hb => by
      have hne : b ≠ a := fun e => k1 (by rw [← e]; exact hb)
      simp only [hne, if_false]
    rw [c1, c2] at ih
    simp only [List.map_cons, sumL, ih]
/-- all places up to n -/
def grid (n : Nat) : List Pt := (List.range (n + 1)).flatMap fun x => (List.range (n + 1)).map fun y => (x, y)
theorem mem_grid {n : Nat} {a : Pt} : a ∈ grid n ↔ a.1 ≤ n ∧ a.2 ≤ n := by
  unfold grid
  simp only [List.mem_flatMap, List.mem_map, List.mem_range]
  constructor
  · rintro ⟨x, hx, y, hy, rfl⟩; exact ⟨by omega, by omega⟩
  · rintro ⟨h1, h2⟩; exact ⟨a.1, by omega, a.2, by omega, rfl⟩
theorem nodup_grid (n : Nat) : (grid n).Nodup := by
  unfold grid
  have key : ∀ l : List Nat, l.Nodup → (l.flatMap fun x => (List.range (n + 1)).map fun y => ((x, y) : Pt)).Nodup := by
    intro l
    induction l with
    | nil => intro _; exact List.nodup_nil
    | cons x l ih =>
      intro h
      obtain ⟨h1, h2⟩ := List.nodup_cons.1 h
      rw [List.flatMap_cons]
      refine List.nodup_append.2 ⟨?_, ih h2, ?_⟩
      · have : (List.range (n + 1)).Nodup := List.nodup_range
        exact (List.pairwise_map).2 (this.imp fun hab e => hab (by injection e))
      · intro a ha b hb e
        subst e
        simp only [List.mem_map, List.mem_flatMap] at ha hb
        obtain ⟨y, _, rfl⟩ := ha
        obtain ⟨x', hx', y', _, e⟩ := hb
        injection e with e1 _
        subst e1; exact h1 hx'
  exact key _ List.nodup_range
/-- what is open after one pair more -/
def nextF (dec : Pt → Bool) (u d e : Rat) (n : Nat) (f : Pt → Rat) (t : Pt) : Rat := if dec t then 0 else at_ ((grid n).flatMap (out u d e f)) t
/-- what one pair more decides -/
def moreF (dec : Pt → Bool) (u d e : Rat) (n : Nat) (f : Pt → Rat) : Rat := dec_ dec ((grid n).flatMap (out u d e f))
/-- after k pairs: what is open, and what is decided; n bounds all places -/
def chF (dec : Pt → Bool) (u d e : Rat) (n : Nat) : Nat → Pt → Rat
  | 0 => fun t => if t = (0, 0) then 1 else 0
  | k + 1 => nextF dec u d e n (chF dec u d e n k)
def chS (dec : Pt → Bool) (u d e : Rat) (n : Nat) : Nat → Rat
  | 0 => 0
  | k + 1 => chS dec u d e n k + moreF dec u d e n (chF dec u d e n k)
theorem out_zero {u d e : Rat} {f : Pt → Rat} {a : Pt} (h : f a = 0) : ∀ c ∈ out u d e f a, c.2 = 0 := by
  intro c hc
  unfold out at hc
  obtain ⟨t, _, rfl⟩ := List.mem_map.1 hc
  show f a * t.2 = 0
  rw [h, Rat.zero_mul]
theorem at_zero {C : List (Pt × Rat)} (h : ∀ c ∈ C, c.2 = 0) (t : Pt) : at_ C t = 0 := sumL_zero fun x hx => by
  obtain ⟨c, hc, rfl⟩ := List.mem_map.1 hx; exact h c (List.mem_filter.1 hc).1
theorem dec_zero {C : List (Pt × Rat)} (h : ∀ c ∈ C, c.2 = 0) (dec : Pt → Bool) : dec_ dec C = 0 := sumL_zero fun x hx => by
  obtain ⟨c, hc, rfl⟩ := List.mem_map.1 hx; exact h c (List.mem_filter.1 hc).1
/-- what comes of places without repetition, outside which nothing is open -/
theorem at_keys {u d e : Rat} {f : Pt → Rat} {l : List Pt} {n : Nat} (hl : l.Nodup) (hn : ∀ a ∈ l, a.1 ≤ n ∧ a.2 ≤ n) (hz : ∀ a, a ∉ l → f a = 0) (t : Pt) : at_ (l.flatMap (out u d e f)) t = at_ ((grid n).flatMap (out u d e f)) t := by
  rw [at_flat, at_flat]
  exact sum_over hl (nodup_grid n) (fun a ha => mem_grid.2 (hn a ha)) (fun a _ ha => at_zero (out_zero (hz a ha)) t)
theorem dec_keys {u d e : Rat} {f : Pt → Rat} {l : List Pt} {n : Nat} (dec : Pt → Bool) (hl : l.Nodup) (hn : ∀ a ∈ l, a.1 ≤ n ∧ a.2 ≤ n) (hz : ∀ a, a ∉ l → f a = 0) : dec_ dec (l.flatMap (out u d e f)) = dec_ dec ((grid n).flatMap (out u d e f)) := by
  rw [dec_flat, dec_flat]
  exact sum_over hl (nodup_grid n) (fun a ha => mem_grid.2 (hn a ha)) (fun a _ ha => dec_zero (out_zero (hz a ha)) dec)
/-- the arms exchanged -/
def swp (a : Pt) : Pt := (a.2, a.1)
theorem swp_swp (a : Pt) : swp (swp a) = a := rfl
theorem sum_swp (n : Nat) (h : Pt → Rat) : sumL ((grid n).map h) = sumL ((grid n).map fun a => h (swp a)) := by
  have e : (grid n).map (fun a => h (swp a)) = ((grid n).map swp).map h := by rw [List.map_map]; rfl
  rw [e]
  refine (sum_over ?_ (nodup_grid n) (fun a ha => ?_) (fun a ha hn => absurd ?_ hn)).symm
  · exact List.pairwise_map.2 ((nodup_grid n).imp fun hab e => hab (by have := congrArg swp e; exact this))
  · obtain ⟨b, hb, rfl⟩ := List.mem_map.1 ha
    have := mem_grid.1 hb; exact mem_grid.2 ⟨this.2, this.1⟩
  · have := mem_grid.1 ha
    exact List.mem_map.2 ⟨swp a, mem_grid.2 ⟨this.2, this.1⟩, rfl⟩
theorem swp_eq {a b : Pt} : swp a = swp b ↔ a = b := ⟨fun h => by have := congrArg swp h; exact this, fun h => by rw [h]⟩
theorem at_cons (c : Pt × Rat) (C : List (Pt × Rat)) (t : Pt) : at_ (c :: C) t = (if c.1 = t then c.2 else 0) + at_ C t := by
  unfold at_
  by_cases h : c.1 = t <;> simp [h, sumL, Rat.zero_add]
theorem dec_cons (dec : Pt → Bool) (c : Pt × Rat) (C : List (Pt × Rat)) : dec_ dec (c :: C) = (if dec c.1 then c.2 else 0) + dec_ dec C := by
  unfold dec_
  by_cases h : dec c.1 = true <;> simp [h, sumL, Rat.zero_add]
theorem at_nil (t : Pt) : at_ [] t = 0 := rfl
theorem dec_nil (dec : Pt → Bool) : dec_ dec [] = 0 := rfl
theorem at_out (u d e : Rat) (f : Pt → Rat) (a t : Pt) : at_ (out u d e f a) t = (if (a.1 + 1, a.2) = t then f a * u else 0) + ((if (a.1, a.2 + 1) = t then f a * d else 0) + (if a = t then f a * e else 0)) := by
  unfold out tr
  simp only [List.map_cons, List.map_nil, at_cons, at_nil, Rat.add_zero]
theorem dec_out (dec : Pt → Bool) (u d e : Rat) (f : Pt → Rat) (a : Pt) : dec_ dec (out u d e f a) = (if dec (a.1 + 1, a.2) then f a * u else 0) + ((if dec (a.1, a.2 + 1) then f a * d else 0) + (if dec a then f a * e else 0)) := by
  unfold out tr
  simp only [List.map_cons, List.map_nil, dec_cons, dec_nil, Rat.add_zero]
theorem add_left_comm (x y z : Rat) : x + (y + z) = y + (x + z) := by rw [← Rat.add_assoc, ← Rat.add_assoc, Rat.add_comm x y]
section
variable {dec dec' : Pt → Bool} {u d e : Rat} {n : Nat} (hd : ∀ a, dec' (swp a) = dec a)
include hd
theorem next_swp {f f' : Pt → Rat} (hf : ∀ a, f' (swp a) = f a) (t : Pt) : nextF dec' d u e n f' (swp t) = nextF dec u d e n f t := by
  unfold nextF
  rw [hd, at_flat, at_flat, sum_swp]
  congr 2
  refine List.map_congr_left fun a _ => ?_
  rw [at_out, at_out, hf]
  have e1 : ((swp a).1 + 1, (swp a).2) = swp t ↔ (a.1, a.2 + 1) = t := swp_eq (a := (a.1, a.2 + 1))
  have e2 : ((swp a).1, (swp a).2 + 1) = swp t ↔ (a.1 + 1, a.2) = t := swp_eq (a := (a.1 + 1, a.2))
  simp only [e1, e2, swp_eq]
  rw [add_left_comm]
theorem more_swp {f f' : Pt → Rat} (hf : ∀ a, f' (swp a) = f a) : moreF dec' d u e n f' = moreF dec u d e n f := by
  unfold moreF
  rw [dec_flat, dec_flat, sum_swp]
  congr 1
  refine List.map_congr_left fun a _ => ?_
  rw [dec_out, dec_out, hf]
  have e1 : dec' ((swp a).1 + 1, (swp a).2) = dec (a.1, a.2 + 1) := hd (a.1, a.2 + 1)
  have e2 : dec' ((swp a).1, (swp a).2 + 1) = dec (a.1 + 1, a.2) := hd (a.1 + 1, a.2)
  rw [e1, e2, hd, add_left_comm]
theorem ch_swp : ∀ k, (∀ a, chF dec' d u e n k (swp a) = chF dec u d e n k a) ∧ chS dec' d u e n k = chS dec u d e n k
  | 0 => ⟨fun a => by
      have : swp a = (0, 0) ↔ a = (0, 0) := swp_eq (b := (0, 0))
      simp only [chF, this], rfl⟩
  | k + 1 => by
    obtain ⟨h1, h2⟩ := ch_swp k
    exact ⟨fun a => next_swp hd h1 a, by rw [chS, chS, h2, more_swp hd h1]⟩
end
end Ch
end Go.Proofs.YtmnmepbljegjeaaGreatDoor
namespace Go.Proofs.YtmnmepbljegjeaaGreatDoor
namespace Ch
theorem sumL_nonneg {l : List Rat} (h : ∀ x ∈ l, 0 ≤ x) : 0 ≤ sumL l := by
  induction l with
  | nil => exact Rat.le_refl
  | cons x l ih =>
    have h1 := h x (by simp)
    have h2 := ih (fun y hy => h y (by simp [hy]))
    show 0 ≤ x + sumL l
    grind
theorem sumL_le {α : Type} {l : List α} {f g : α → Rat} (h : ∀ x ∈ l, f x ≤ g x) : sumL (l.map f) ≤ sumL (l.map g) := by
  induction l with
  | nil => exact Rat.le_refl
  | cons x l ih =>
    have h1 := h x (by simp)
    have h2 := ih (fun y hy => h y (by simp [hy]))
    show f x + sumL (l.map f) ≤ g x + sumL (l.map g)
    grind
theorem sumL_add {α : Type} (l : List α) (f g : α → Rat) : sumL (l.map fun a => f a + g a) = sumL (l.map f) + sumL (l.map g) := by
  induction l with
  | nil => exact (Rat.add_zero 0).symm
  | cons x l ih =>
    show f x + g x + sumL (l.map fun a => f a + g a) = f x + sumL (l.map f) + (g x + sumL (l.map g))
    rw [ih]; grind
theorem mul_nonneg {a b : Rat} (h : 0 ≤ a) (k : 0 ≤ b) : 0 ≤ a * b := Rat.mul_nonneg h k
theorem at_nonneg {C : List (Pt × Rat)} (h : ∀ c ∈ C, 0 ≤ c.2) (t : Pt) : 0 ≤ at_ C t := sumL_nonneg fun x hx => by
  obtain ⟨c, hc, rfl⟩ := List.mem_map.1 hx; exact h c (List.mem_filter.1 hc).1
theorem dec_nonneg {C : List (Pt × Rat)} (h : ∀ c ∈ C, 0 ≤ c.2) (dec : Pt → Bool) : 0 ≤ dec_ dec C := sumL_nonneg fun x hx => by
  obtain ⟨c, hc, rfl⟩ := List.mem_map.1 hx; exact h c (List.mem_filter.1 hc).1
section
variable {dec : Pt → Bool} {u d e : Rat} {n : Nat} (hu : 0 ≤ u) (hd : 0 ≤ d) (he : 0 ≤ e)
include hu hd he
theorem out_nonneg {f : Pt → Rat} (hf : ∀ a, 0 ≤ f a) : ∀ c ∈ (grid n).flatMap (out u d e f), 0 ≤ c.2 := by
  intro c hc
  obtain ⟨a, _, hc⟩ := List.mem_flatMap.1 hc
  unfold out tr at hc
  simp only [List.map_cons, List.map_nil, List.mem_cons, List.not_mem_nil, or_false] at hc
  rcases hc with rfl | rfl | rfl
  · exact mul_nonneg (hf a) hu
  · exact mul_nonneg (hf a) hd
  · exact mul_nonneg (hf a) he
theorem chF_nonneg : ∀ k t, 0 ≤ chF dec u d e n k t
  | 0, t => by
    show 0 ≤ (if t = (0, 0) then (1 : Rat) else 0)
    split <;> decide
  | k + 1, t => by
    show 0 ≤ nextF dec u d e n (chF dec u d e n k) t
    unfold nextF
    split
    · exact Rat.le_refl
    · exact at_nonneg (out_nonneg hu hd he (chF_nonneg k)) t
theorem more_nonneg (k : Nat) : 0 ≤ moreF dec u d e n (chF dec u d e n k) := dec_nonneg (out_nonneg hu hd he (chF_nonneg hu hd he k)) dec
theorem chS_mono (k : Nat) : chS dec u d e n k ≤ chS dec u d e n (k + 1) := by
  have := more_nonneg (dec := dec) (n := n) hu hd he k
  show chS dec u d e n k ≤ chS dec u d e n k + moreF dec u d e n (chF dec u d e n k)
  grind
theorem chS_nonneg : ∀ k, 0 ≤ chS dec u d e n k
  | 0 => Rat.le_refl
  | k + 1 => Rat.le_trans (chS_nonneg k) (chS_mono hu hd he k)
end
/-- what one contribution adds, over places -/
theorem one_add {ev : Pt → Rat} (hev : ∀ a, 0 ≤ ev a) (dec : Pt → Bool) {c : Pt × Rat} (hc : 0 ≤ c.2) : ∀ {l : List Pt}, l.Nodup → sumL (l.map fun t => (if dec t then 0 else (if c.1 = t then c.2 else 0)) * ev t) ≤ if dec c.1 then 0 else c.2 * ev c.1
  | [], _ => by
    show (0 : Rat) ≤ _
    split
    · exact Rat.le_refl
    · exact mul_nonneg hc (hev _)
  | t :: l, hl => by
    obtain ⟨h1, h2⟩ := List.nodup_cons.1 hl
    show (if dec t then 0 else (if c.1 = t then c.2 else 0)) * ev t + sumL _ ≤ _
    by_cases e : c.1 = t
    · have hz : sumL (l.map fun t => (if dec t then 0 else (if c.1 = t then c.2 else 0)) * ev t) = 0 := sumL_zero fun x hx => by
        obtain ⟨b, hb, rfl⟩ := List.mem_map.1 hx
        have hne : ¬ c.1 = b := fun e' => h1 (by rw [← e, e']; exact hb)
        simp [hne]
      rw [hz]
      subst e
      by_cases hdc : dec c.1 = true
      · simp [hdc, Rat.add_zero]
      · simp [hdc, Rat.add_zero]
    · have ih := one_add hev dec hc h2
      simp only [e, if_false, ite_self, Rat.zero_mul, Rat.zero_add]
      exact ih
theorem all_add {ev : Pt → Rat} (hev : ∀ a, 0 ≤ ev a) {dec : Pt → Bool} {Q : Rat} (hq : ∀ a, dec a = true → Q ≤ ev a) {l : List Pt} (hl : l.Nodup) : ∀ {C : List (Pt × Rat)}, (∀ c ∈ C, 0 ≤ c.2) →
    dec_ dec C * Q + sumL (l.map fun t => (if dec t then 0 else at_ C t) * ev t) ≤ sumL (C.map fun c => c.2 * ev c.1)
  | [], _ => by
    have hz : sumL (l.map fun t => (if dec t then 0 else at_ [] t) * ev t) = 0 := sumL_zero fun x hx => by
      obtain ⟨b, _, rfl⟩ := List.mem_map.1 hx
      simp [at_nil]
    rw [hz, dec_nil]
    show (0 : Rat) * Q + 0 ≤ 0
    grind
  | c :: C, h => by
    have hc := h c (by simp)
    have ih := all_add hev hq hl (C := C) (fun x hx => h x (by simp [hx]))
    have h1 := one_add hev dec hc hl
    have e1 : sumL (l.map fun t => (if dec t then 0 else at_ (c :: C) t) * ev t) = sumL (l.map fun t => (if dec t then 0 else (if c.1 = t then c.2 else 0)) * ev t) + sumL (l.map fun t => (if dec t then 0 else at_ C t) * ev t) := by
      rw [← sumL_add]
      congr 1
      refine List.map_congr_left fun t _ => ?_
      rw [at_cons]
      by_cases ht : dec t = true
      · simp [ht, Rat.add_zero]
      · simp only [ht, if_false, Bool.false_eq_true]; grind
    have e2 : dec_ dec (c :: C) = (if dec c.1 then c.2 else 0) + dec_ dec C := dec_cons dec c C
    rw [e1, e2]
    show _ ≤ c.2 * ev c.1 + sumL (C.map fun c => c.2 * ev c.1)
    by_cases hdc : dec c.1 = true
    · have hm : c.2 * Q ≤ c.2 * ev c.1 := Rat.mul_le_mul_of_nonneg_left (hq _ hdc) hc
      simp only [hdc, if_true] at h1 ⊢
      grind
    · simp only [hdc, if_false, Bool.false_eq_true] at h1 ⊢
      grind
theorem sumL_flat {α β : Type} (g : α → List β) (f : β → Rat) (l : List α) : sumL ((l.flatMap g).map f) = sumL (l.map fun a => sumL ((g a).map f)) := by
  induction l with
  | nil => rfl
  | cons a l ih => rw [List.flatMap_cons, List.map_append, sumL_append, ih]; rfl
/-- The bound: what is decided, times the evidence that decides, is at most 1. -/
theorem ville {dec : Pt → Bool} {u d e : Rat} {n : Nat} (hu : 0 ≤ u) (hd : 0 ≤ d) (he : 0 ≤ e) {ev : Pt → Rat} (hev : ∀ a, 0 ≤ ev a) {Q : Rat} (hq : ∀ a, dec a = true → Q ≤ ev a) (h0 : ev (0, 0) = 1)
    (hs : ∀ a : Pt, u * ev (a.1 + 1, a.2) + d * ev (a.1, a.2 + 1) + e * ev a ≤ ev a) : ∀ k, chS dec u d e n k * Q + sumL ((grid n).map fun t => chF dec u d e n k t * ev t) ≤ 1
  | 0 => by
    have h1 := one_add hev (fun _ => false) (c := ((0, 0), 1)) (by decide) (nodup_grid n)
    have h2 : sumL ((grid n).map fun t => chF dec u d e n 0 t * ev t) = sumL ((grid n).map fun t => (if (fun _ => false) t = true then 0 else (if ((0, 0), (1 : Rat)).1 = t then ((0, 0), (1 : Rat)).2 else 0)) * ev t) := by
      congr 1
      refine List.map_congr_left fun t _ => ?_
      show (if t = (0, 0) then (1 : Rat) else 0) * ev t = (if false = true then (0 : Rat) else (if (0, 0) = t then (1 : Rat) else 0)) * ev t
      by_cases e : t = (0, 0)
      · subst e; simp
      · have : ¬ (0, 0) = t := fun h => e h.symm
        simp [e, this]
    rw [h2]
    simp only [Bool.false_eq_true, if_false] at h1 ⊢
    rw [h0] at h1
    show (0 : Rat) * Q + _ ≤ 1
    grind
  | k + 1 => by
    have ih := ville (n := n) hu hd he hev hq h0 hs k
    have hf := chF_nonneg (dec := dec) (n := n) hu hd he k
    have h1 := all_add hev hq (nodup_grid n) (out_nonneg (n := n) hu hd he hf)
    rw [sumL_flat] at h1
    have h2 : sumL ((grid n).map fun a => sumL ((out u d e (chF dec u d e n k) a).map fun c => c.2 * ev c.1)) ≤ sumL ((grid n).map fun t => chF dec u d e n k t * ev t) := by
      refine sumL_le fun a _ => ?_
      show chF dec u d e n k a * u * ev (a.1 + 1, a.2) + (chF dec u d e n k a * d * ev (a.1, a.2 + 1) + (chF dec u d e n k a * e * ev a + 0)) ≤ _
      have h3 := Rat.mul_le_mul_of_nonneg_left (hs a) (hf a)
      grind
    have e1 : sumL ((grid n).map fun t => chF dec u d e n (k + 1) t * ev t) = sumL ((grid n).map fun t => (if dec t then 0 else at_ ((grid n).flatMap (out u d e (chF dec u d e n k))) t) * ev t) := rfl
    have e2 : chS dec u d e n (k + 1) = chS dec u d e n k + dec_ dec ((grid n).flatMap (out u d e (chF dec u d e n k))) := rfl
    rw [e1, e2]
    grind
theorem chance_le {dec : Pt → Bool} {u d e : Rat} {n : Nat} (hu : 0 ≤ u) (hd : 0 ≤ d) (he : 0 ≤ e) {ev : Pt → Rat} (hev : ∀ a, 0 ≤ ev a) {Q : Rat} (hq : ∀ a, dec a = true → Q ≤ ev a) (h0 : ev (0, 0) = 1)
    (hs : ∀ a : Pt, u * ev (a.1 + 1, a.2) + d * ev (a.1, a.2 + 1) + e * ev a ≤ ev a) (k : Nat) : chS dec u d e n k * Q ≤ 1 := by
  have h := ville (n := n) hu hd he hev hq h0 hs k
  have h1 : 0 ≤ sumL ((grid n).map fun t => chF dec u d e n k t * ev t) := sumL_nonneg fun x hx => by
    obtain ⟨t, _, rfl⟩ := List.mem_map.1 hx
    exact mul_nonneg (chF_nonneg hu hd he k t) (hev t)
  grind
/-- the bound of the places does not matter -/
theorem ch_bound {dec : Pt → Bool} {u d e : Rat} {n : Nat} : ∀ k, k ≤ n → (∀ t, chF dec u d e (n + 1) k t = chF dec u d e n k t) ∧ (∀ t, k < t.1 + t.2 → chF dec u d e n k t = 0) ∧ chS dec u d e (n + 1) k = chS dec u d e n k
  | 0, _ => ⟨fun _ => rfl, fun t ht => by
      show (if t = (0, 0) then (1 : Rat) else 0) = 0
      rw [if_neg (fun e => by rw [e] at ht; omega)], rfl⟩
  | k + 1, hk => by
    obtain ⟨h1, h2, h3⟩ := ch_bound (dec := dec) (u := u) (d := d) (e := e) (n := n) k (by omega)
    have hf : chF dec u d e (n + 1) k = chF dec u d e n k := funext h1
    have hz : ∀ a, a ∉ grid n → chF dec u d e n k a = 0 := fun a ha => h2 a (by
      rcases Nat.lt_or_ge k (a.1 + a.2) with h | h
      · exact h
      · exact absurd (mem_grid.2 ⟨by omega, by omega⟩) ha)
    have hat : ∀ t, at_ ((grid n).flatMap (out u d e (chF dec u d e n k))) t = at_ ((grid (n + 1)).flatMap (out u d e (chF dec u d e n k))) t := fun t =>
      at_keys (nodup_grid n) (fun a ha => by have := mem_grid.1 ha; exact ⟨by omega, by omega⟩) hz t
    have hde : dec_ dec ((grid n).flatMap (out u d e (chF dec u d e n k))) = dec_ dec ((grid (n + 1)).flatMap (out u d e (chF dec u d e n k))) :=
      dec_keys dec (nodup_grid n) (fun a ha => by have := mem_grid.1 ha; exact ⟨by omega, by omega⟩) hz
    refine ⟨fun t => ?_, fun t ht => ?_, ?_⟩
    · show nextF dec u d e (n + 1) (chF dec u d e (n + 1) k) t = nextF dec u d e n (chF dec u d e n k) t
      unfold nextF
      rw [hf, hat]
    · show nextF dec u d e n (chF dec u d e n k) t = 0
      unfold nextF
      rw [at_flat]
      have : sumL ((grid n).map fun a => at_ (out u d e (chF dec u d e n k) a) t) = 0 := sumL_zero fun x hx => by
        obtain ⟨a, ha, rfl⟩ := List.mem_map.1 hx
        rw [at_out]
        by_cases hza : k < a.1 + a.2
        · rw [h2 a hza]; simp [Rat.add_zero]
        · rw [if_neg, if_neg, if_neg]
          · simp [Rat.add_zero]
          · intro e; subst e; omega
          · intro e; subst e; simp only at ht; omega
          · intro e; subst e; simp only at ht; omega
      rw [this]; split <;> rfl
    · show chS dec u d e (n + 1) k + moreF dec u d e (n + 1) (chF dec u d e (n + 1) k) = chS dec u d e n k + moreF dec u d e n (chF dec u d e n k)
      unfold moreF
      rw [h3, hf, hde]
theorem chance_more {dec : Pt → Bool} {u d e : Rat} (n : Nat) (hu : 0 ≤ u) (hd : 0 ≤ d) (he : 0 ≤ e) : chS dec u d e n n ≤ chS dec u d e (n + 1) (n + 1) := by
  have h1 := (ch_bound (dec := dec) (u := u) (d := d) (e := e) (n := n) n (Nat.le_refl _)).2.2
  rw [← h1]
  exact chS_mono hu hd he n
end Ch
end Go.Proofs.YtmnmepbljegjeaaGreatDoor
