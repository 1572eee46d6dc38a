/- The chances' maps and numbers, as they lie in memory. (Several texts in one: ChP, ChF, ChK, ChW.) -/
import Derived.Lib.Hide
import Derived.Test.YtkinapdfmgfdfaaRatM
import Derived.Test.YtkinapdfmgfdfaaProg
import Derived.Test.YtkinapdfmgfdfaaMapR
import Derived.ChangeKeysEq
import Derived.Test.YtkinapdfmgfdfaaFr
namespace Go.Proofs.Ytkinapdfmgfdfaa
namespace Ch
def sumL : List Rat → Rat
  | [] => 0
  | x :: l => x + sumL l
theorem sumL_append (l m : List Rat) : sumL (l ++ m) = sumL l + sumL m := by
  induction l with
  | nil => simp [sumL, Rat.zero_add]
  | cons x l ih => simp only [List.cons_append, sumL, ih, Rat.add_assoc]
theorem sumL_perm {l m : List Rat} (h : l.Perm m) : sumL l = sumL m := by
  induction h with
  | nil => rfl
  | cons x _ ih => simp only [sumL, ih]
  | swap x y l => simp only [sumL]; rw [← Rat.add_assoc, ← Rat.add_assoc, Rat.add_comm x y]
  | trans _ _ h1 h2 => exact h1.trans h2
theorem sumL_zero {l : List Rat} (h : ∀ x ∈ l, x = 0) : sumL l = 0 := by
  induction l with
  | nil => rfl
  | cons x l ih => rw [sumL, h x (by simp), ih (fun y hy => h y (by simp [hy])), Rat.zero_add]
abbrev Pt := Nat × Nat
/-- where a pair leads, and with which probability -/
def tr (u d e : Rat) (a : Pt) : List (Pt × Rat) := [((a.1 + 1, a.2), u), ((a.1, a.2 + 1), d), (a, e)]
/-- what comes from a place -/
def out (u d e : Rat) (f : Pt → Rat) (a : Pt) : List (Pt × Rat) := (tr u d e a).map fun c => (c.1, f a * c.2)
/-- what arrives at a place -/
def at_ (C : List (Pt × Rat)) (t : Pt) : Rat := sumL ((C.filter fun c => decide (c.1 = t)).map (·.2))
/-- what arrives at places that are decided -/
def dec_ (dec : Pt → Bool) (C : List (Pt × Rat)) : Rat := sumL ((C.filter fun c => dec c.1).map (·.2))
theorem at_snoc (C : List (Pt × Rat)) (c : Pt × Rat) (t : Pt) : at_ (C ++ [c]) t = if c.1 = t then at_ C t + c.2 else at_ C t := by
  unfold at_
  rw [List.filter_append, List.map_append, sumL_append]
  by_cases h : c.1 = t <;> simp [h, sumL, Rat.add_zero]
theorem dec_snoc (dec : Pt → Bool) (C : List (Pt × Rat)) (c : Pt × Rat) : dec_ dec (C ++ [c]) = if dec c.1 then dec_ dec C + c.2 else dec_ dec C := by
  unfold dec_
  rw [List.filter_append, List.map_append, sumL_append]
  by_cases h : dec c.1 <;> simp [h, sumL, Rat.add_zero]
theorem at_append (C D : List (Pt × Rat)) (t : Pt) : at_ (C ++ D) t = at_ C t + at_ D t := by
  unfold at_; rw [List.filter_append, List.map_append, sumL_append]
theorem dec_append (dec : Pt → Bool) (C D : List (Pt × Rat)) : dec_ dec (C ++ D) = dec_ dec C + dec_ dec D := by
  unfold dec_; rw [List.filter_append, List.map_append, sumL_append]
/-- over a list of places -/
theorem at_flat (g : Pt → List (Pt × Rat)) (t : Pt) (l : List Pt) : at_ (l.flatMap g) t = sumL (l.map fun a => at_ (g a) t) := by
  induction l with
  | nil => rfl
  | cons a l ih => rw [List.flatMap_cons, at_append, ih]; rfl
theorem dec_flat (dec : Pt → Bool) (g : Pt → List (Pt × Rat)) (l : List Pt) : dec_ dec (l.flatMap g) = sumL (l.map fun a => dec_ dec (g a)) := by
  induction l with
  | nil => rfl
  | cons a l ih => rw [List.flatMap_cons, dec_append, ih]; rfl
/-- A sum over places without repetition, of what is 0 outside them, is the sum over any list without repetition that has them all. -/
theorem sum_over {h : Pt → Rat} : ∀ {l g : List Pt}, l.Nodup → g.Nodup → (∀ a ∈ l, a ∈ g) → (∀ a ∈ g, a ∉ l → h a = 0) → sumL (l.map h) = sumL (g.map h)
  | [], g, _, _, _, hz => by
    rw [sumL_zero (l := g.map h) (fun x hx => by obtain ⟨a, ha, rfl⟩ := List.mem_map.1 hx; exact hz a ha (by simp))]; rfl
  | a :: l, g, hl, hg, hs, hz => by
    obtain ⟨h1, h2⟩ := List.nodup_cons.1 hl
    obtain ⟨g1, g2, rfl⟩ := List.append_of_mem (hs a (by simp))
    have hp : (g1 ++ a :: g2).Perm (a :: (g1 ++ g2)) := List.perm_middle
    rw [sumL_perm (hp.map h)]
    have hn := (hp.nodup_iff).1 hg
    obtain ⟨k1, k2⟩ := List.nodup_cons.1 hn
    have hz' : ∀ b ∈ g1 ++ g2, b ∉ l → (fun b => if b = a then 0 else h b) b = 0 := fun b hbg hb => by
      by_cases e : b = a
      · simp [e]
      · simp only [e, if_false]; exact hz b (hp.mem_iff.2 (List.mem_cons_of_mem _ hbg)) (by simp [e, hb])
    have ih := sum_over (h := fun b => if b = a then 0 else h b) h2 k2 (fun b hb => by
      rcases List.mem_cons.1 (hp.mem_iff.1 (hs b (by simp [hb]))) with e | e
      · subst e; exact absurd hb h1
      · exact e) hz'
    have c1 : l.map (fun b => if b = a then 0 else h b) = l.map h := List.map_congr_left fun b hb => by
      have hne : b ≠ a := fun e => h1 (by rw [← e]; exact hb)
      simp only [hne, if_false]
    have c2 : (g1 ++ g2).map (fun b => if b = a then 0 else h b) = (g1 ++ g2).map h := List.map_congr_left fun b hb => by
      have hne : b ≠ a := fun e => k1 (by rw [← e]; exact hb)
      simp only [hne, if_false]
    rw [c1, c2] at ih
    simp only [List.map_cons, sumL, ih]
/-- all places up to n -/
def grid (n : Nat) : List Pt := (List.range (n + 1)).flatMap fun x => (List.range (n + 1)).map fun y => (x, y)
theorem mem_grid {n : Nat} {a : Pt} : a ∈ grid n ↔ a.1 ≤ n ∧ a.2 ≤ n := by
  unfold grid
  simp only [List.mem_flatMap, List.mem_map, List.mem_range]
  constructor
  · rintro ⟨x, hx, y, hy, rfl⟩; exact ⟨by omega, by omega⟩
  · rintro ⟨h1, h2⟩; exact ⟨a.1, by omega, a.2, by omega, rfl⟩
theorem nodup_grid (n : Nat) : (grid n).Nodup := by
  unfold grid
  have key : ∀ l : List Nat, l.Nodup → (l.flatMap fun x => (List.range (n + 1)).map fun y => ((x, y) : Pt)).Nodup := by
    intro l
    induction l with
    | nil => intro _; exact List.nodup_nil
    | cons x l ih =>
      intro h
      obtain ⟨h1, h2⟩ := List.nodup_cons.1 h
      rw [List.flatMap_cons]
      refine List.nodup_append.2 ⟨?_, ih h2, ?_⟩
      · have : (List.range (n + 1)).Nodup := List.nodup_range
        exact (List.pairwise_map).2 (this.imp fun hab e => hab (by injection e))
      · intro a ha b hb e
        subst e
        simp only [List.mem_map, List.mem_flatMap] at ha hb
        obtain ⟨y, _, rfl⟩ := ha
        obtain ⟨x', hx', y', _, e⟩ := hb
        injection e with e1 _
        subst e1; exact h1 hx'
  exact key _ List.nodup_range
/-- what is open after one pair more -/
def nextF (dec : Pt → Bool) (u d e : Rat) (n : Nat) (f : Pt → Rat) (t : Pt) : Rat := if dec t then 0 else at_ ((grid n).flatMap (out u d e f)) t
/-- what one pair more decides -/
def moreF (dec : Pt → Bool) (u d e : Rat) (n : Nat) (f : Pt → Rat) : Rat := dec_ dec ((grid n).flatMap (out u d e f))
/-- after k pairs: what is open, and what is decided; n bounds all places -/
def chF (dec : Pt → Bool) (u d e : Rat) (n : Nat) : Nat → Pt → Rat
  | 0 => fun t => if t = (0, 0) then 1 else 0
  | k + 1 => nextF dec u d e n (chF dec u d e n k)
def chS (dec : Pt → Bool) (u d e : Rat) (n : Nat) : Nat → Rat
  | 0 => 0
  | k + 1 => chS dec u d e n k + moreF dec u d e n (chF dec u d e n k)
theorem out_zero {u d e : Rat} {f : Pt → Rat} {a : Pt} (h : f a = 0) : ∀ c ∈ out u d e f a, c.2 = 0 := by
  intro c hc
  unfold out at hc
  obtain ⟨t, _, rfl⟩ := List.mem_map.1 hc
  show f a * t.2 = 0
  rw [h, Rat.zero_mul]
theorem at_zero {C : List (Pt × Rat)} (h : ∀ c ∈ C, c.2 = 0) (t : Pt) : at_ C t = 0 := sumL_zero fun x hx => by
  obtain ⟨c, hc, rfl⟩ := List.mem_map.1 hx; exact h c (List.mem_filter.1 hc).1
theorem dec_zero {C : List (Pt × Rat)} (h : ∀ c ∈ C, c.2 = 0) (dec : Pt → Bool) : dec_ dec C = 0 := sumL_zero fun x hx => by
  obtain ⟨c, hc, rfl⟩ := List.mem_map.1 hx; exact h c (List.mem_filter.1 hc).1
/-- what comes of places without repetition, outside which nothing is open -/
theorem at_keys {u d e : Rat} {f : Pt → Rat} {l : List Pt} {n : Nat} (hl : l.Nodup) (hn : ∀ a ∈ l, a.1 ≤ n ∧ a.2 ≤ n) (hz : ∀ a, a ∉ l → f a = 0) (t : Pt) : at_ (l.flatMap (out u d e f)) t = at_ ((grid n).flatMap (out u d e f)) t := by
  rw [at_flat, at_flat]
  exact sum_over hl (nodup_grid n) (fun a ha => mem_grid.2 (hn a ha)) (fun a _ ha => at_zero (out_zero (hz a ha)) t)
theorem dec_keys {u d e : Rat} {f : Pt → Rat} {l : List Pt} {n : Nat} (dec : Pt → Bool) (hl : l.Nodup) (hn : ∀ a ∈ l, a.1 ≤ n ∧ a.2 ≤ n) (hz : ∀ a, a ∉ l → f a = 0) : dec_ dec (l.flatMap (out u d e f)) = dec_ dec ((grid n).flatMap (out u d e f)) := by
  rw [dec_flat, dec_flat]
  exact sum_over hl (nodup_grid n) (fun a ha => mem_grid.2 (hn a ha)) (fun a _ ha => dec_zero (out_zero (hz a ha)) dec)
/-- the arms exchanged -/
def swp (a : Pt) : Pt := (a.2, a.1)
theorem swp_swp (a : Pt) : swp (swp a) = a := rfl
theorem sum_swp (n : Nat) (h : Pt → Rat) : sumL ((grid n).map h) = sumL ((grid n).map fun a => h (swp a)) := by
  have e : (grid n).map (fun a => h (swp a)) = ((grid n).map swp).map h := by rw [List.map_map]; rfl
  rw [e]
  refine (sum_over ?_ (nodup_grid n) (fun a ha => ?_) (fun a ha hn => absurd ?_ hn)).symm
  · exact List.pairwise_map.2 ((nodup_grid n).imp fun hab e => hab (by have := congrArg swp e; exact this))
  · obtain ⟨b, hb, rfl⟩ := List.mem_map.1 ha
    have := mem_grid.1 hb; exact mem_grid.2 ⟨this.2, this.1⟩
  · have := mem_grid.1 ha
    exact List.mem_map.2 ⟨swp a, mem_grid.2 ⟨this.2, this.1⟩, rfl⟩
theorem swp_eq {a b : Pt} : swp a = swp b ↔ a = b := ⟨fun h => by have := congrArg swp h; exact this, fun h => by rw [h]⟩
theorem at_cons (c : Pt × Rat) (C : List (Pt × Rat)) (t : Pt) : at_ (c :: C) t = (if c.1 = t then c.2 else 0) + at_ C t := by
  unfold at_
  by_cases h : c.1 = t <;> simp [List.filter_cons, h, sumL, Rat.zero_add]
theorem dec_cons (dec : Pt → Bool) (c : Pt × Rat) (C : List (Pt × Rat)) : dec_ dec (c :: C) = (if dec c.1 then c.2 else 0) + dec_ dec C := by
  unfold dec_
  by_cases h : dec c.1 = true <;> simp [List.filter_cons, h, sumL, Rat.zero_add]
theorem at_nil (t : Pt) : at_ [] t = 0 := rfl
theorem dec_nil (dec : Pt → Bool) : dec_ dec [] = 0 := rfl
theorem at_out (u d e : Rat) (f : Pt → Rat) (a t : Pt) : at_ (out u d e f a) t = (if (a.1 + 1, a.2) = t then f a * u else 0) + ((if (a.1, a.2 + 1) = t then f a * d else 0) + (if a = t then f a * e else 0)) := by
  unfold out tr
  simp only [List.map_cons, List.map_nil, at_cons, at_nil, Rat.add_zero]
theorem dec_out (dec : Pt → Bool) (u d e : Rat) (f : Pt → Rat) (a : Pt) : dec_ dec (out u d e f a) = (if dec (a.1 + 1, a.2) then f a * u else 0) + ((if dec (a.1, a.2 + 1) then f a * d else 0) + (if dec a then f a * e else 0)) := by
  unfold out tr
  simp only [List.map_cons, List.map_nil, dec_cons, dec_nil, Rat.add_zero]
theorem add_left_comm (x y z : Rat) : x + (y + z) = y + (x + z) := by rw [← Rat.add_assoc, ← Rat.add_assoc, Rat.add_comm x y]
section
variable {dec dec' : Pt → Bool} {u d e : Rat} {n : Nat} (hd : ∀ a, dec' (swp a) = dec a)
include hd
theorem next_swp {f f' : Pt → Rat} (hf : ∀ a, f' (swp a) = f a) (t : Pt) : nextF dec' d u e n f' (swp t) = nextF dec u d e n f t := by
  unfold nextF
  rw [hd, at_flat, at_flat, sum_swp]
  congr 2
  refine List.map_congr_left fun a _ => ?_
  rw [at_out, at_out, hf]
  have e1 : ((swp a).1 + 1, (swp a).2) = swp t ↔ (a.1, a.2 + 1) = t := swp_eq (a := (a.1, a.2 + 1))
  have e2 : ((swp a).1, (swp a).2 + 1) = swp t ↔ (a.1 + 1, a.2) = t := swp_eq (a := (a.1 + 1, a.2))
  simp only [e1, e2, swp_eq]
  rw [add_left_comm]
theorem more_swp {f f' : Pt → Rat} (hf : ∀ a, f' (swp a) = f a) : moreF dec' d u e n f' = moreF dec u d e n f := by
  unfold moreF
  rw [dec_flat, dec_flat, sum_swp]
  congr 1
  refine List.map_congr_left fun a _ => ?_
  rw [dec_out, dec_out, hf]
  have e1 : dec' ((swp a).1 + 1, (swp a).2) = dec (a.1, a.2 + 1) := hd (a.1, a.2 + 1)
  have e2 : dec' ((swp a).1, (swp a).2 + 1) = dec (a.1 + 1, a.2) := hd (a.1 + 1, a.2)
  rw [e1, e2, hd, add_left_comm]
theorem ch_swp : ∀ k, (∀ a, chF dec' d u e n k (swp a) = chF dec u d e n k a) ∧ chS dec' d u e n k = chS dec u d e n k
  | 0 => ⟨fun a => by
      have : swp a = (0, 0) ↔ a = (0, 0) := swp_eq (b := (0, 0))
      simp only [chF, this], rfl⟩
  | k + 1 => by
    obtain ⟨h1, h2⟩ := ch_swp k
    exact ⟨fun a => next_swp hd h1 a, by rw [chS, chS, h2, more_swp hd h1]⟩
end
end Ch
end Go.Proofs.Ytkinapdfmgfdfaa
namespace Go.Proofs.Ytkinapdfmgfdfaa
namespace Ch
open Nm
/-- q is m / D with m at most M. -/
def Fit (D M : Nat) (q : Rat) : Prop := D ≠ 0 ∧ ∃ m : Nat, m ≤ M ∧ q = mkRat (m : Int) D
theorem Fit.zero {D : Nat} (hD : D ≠ 0) (M : Nat) : Fit D M 0 := ⟨hD, 0, Nat.zero_le _, by simp⟩
theorem Fit.mono {D M M' : Nat} {q : Rat} (h : Fit D M q) (hM : M ≤ M') : Fit D M' q := by
  obtain ⟨hD, m, hm, rfl⟩ := h; exact ⟨hD, m, Nat.le_trans hm hM, rfl⟩
theorem Fit.scale {D M : Nat} {q : Rat} (h : Fit D M q) {c : Nat} (hc : c ≠ 0) : Fit (D * c) (M * c) q := by
  obtain ⟨hD, m, hm, rfl⟩ := h
  refine ⟨Nat.mul_ne_zero hD hc, m * c, Nat.mul_le_mul_right _ hm, ?_⟩
  rw [Int.natCast_mul, Rat.mkRat_mul_right hc]
theorem Fit.add {D M N : Nat} {p q : Rat} (h : Fit D M p) (k : Fit D N q) : Fit D (M + N) (p + q) := by
  obtain ⟨hD, m, hm, rfl⟩ := h
  obtain ⟨_, n, hn, rfl⟩ := k
  refine ⟨hD, m + n, by omega, ?_⟩
  rw [Rat.mkRat_add_mkRat _ _ hD hD, ← Int.add_mul, Rat.mkRat_mul_right hD, Int.natCast_add]
theorem Fit.mul {D E M N : Nat} {p q : Rat} (h : Fit D M p) (k : Fit E N q) : Fit (D * E) (M * N) (p * q) := by
  obtain ⟨hD, m, hm, rfl⟩ := h
  obtain ⟨hE, n, hn, rfl⟩ := k
  refine ⟨Nat.mul_ne_zero hD hE, m * n, Nat.mul_le_mul hm hn, ?_⟩
  rw [Rat.mkRat_mul_mkRat, Int.natCast_mul]
theorem Fit.int {n M : Nat} (h : n ≤ M) : Fit 1 M ((n : Int) : Rat) := ⟨by omega, n, h, by rw [Rat.mkRat_one]⟩
theorem Fit.bound {D M : Nat} {q : Rat} (h : Fit D M q) : q.num.natAbs ≤ M ∧ q.den ≤ D := by
  obtain ⟨hD, m, hm, rfl⟩ := h
  have e : mkRat (m : Int) D = Rat.normalize (sgn false m) D hD := by rw [Rat.normalize_eq_mkRat]; rfl
  rw [e, norm_abs, norm_den]
  exact ⟨Nat.le_trans (Nat.div_le_self _ _) hm, Nat.div_le_self _ _⟩
theorem Fit.sum {D M : Nat} (hD : D ≠ 0) : ∀ {l : List Rat}, (∀ x ∈ l, Fit D M x) → Fit D (l.length * M) (sumL l)
  | [], _ => Fit.zero hD _
  | x :: l, h => by
    have h1 := h x (by simp)
    have h2 := Fit.sum hD (l := l) (fun y hy => h y (by simp [hy]))
    have := h1.add h2
    rw [List.length_cons, Nat.add_mul, Nat.one_mul, Nat.add_comm]; exact this
theorem Fit.at_ {D M : Nat} (hD : D ≠ 0) {C : List (Pt × Rat)} (h : ∀ c ∈ C, Fit D M c.2) (t : Pt) : Fit D (C.length * M) (at_ C t) := by
  refine (Fit.sum (M := M) hD fun x hx => ?_).mono (Nat.mul_le_mul_right _ ?_)
  · obtain ⟨c, hc, rfl⟩ := List.mem_map.1 hx; exact h c (List.mem_filter.1 hc).1
  · rw [List.length_map]; exact List.length_filter_le _ _
theorem Fit.dec_ {D M : Nat} (hD : D ≠ 0) {C : List (Pt × Rat)} (h : ∀ c ∈ C, Fit D M c.2) (dec : Pt → Bool) : Fit D (C.length * M) (dec_ dec C) := by
  refine (Fit.sum (M := M) hD fun x hx => ?_).mono (Nat.mul_le_mul_right _ ?_)
  · obtain ⟨c, hc, rfl⟩ := List.mem_map.1 hx; exact h c (List.mem_filter.1 hc).1
  · rw [List.length_map]; exact List.length_filter_le _ _
theorem out_fit {u d e : Rat} {f : Pt → Rat} {D M N : Nat} (hf : ∀ a, Fit D M (f a)) (hu : Fit 1000000 N u) (hd : Fit 1000000 N d) (he : Fit 1000000 N e) (a : Pt) : ∀ c ∈ out u d e f a, Fit (D * 1000000) (M * N) c.2 := by
  intro c hc
  unfold out tr at hc
  simp only [List.map_cons, List.map_nil, List.mem_cons, List.not_mem_nil, or_false] at hc
  rcases hc with rfl | rfl | rfl
  · exact (hf a).mul hu
  · exact (hf a).mul hd
  · exact (hf a).mul he
end Ch
end Go.Proofs.Ytkinapdfmgfdfaa
namespace Go.Proofs.Ytkinapdfmgfdfaa
open Go.RowKit
namespace Ch
abbrev ptV (a : Pt) : Value := .agg #[.int .i64 (a.1 : Int), .int .i64 (a.2 : Int)]
set_option maxHeartbeats 1000000 in
theorem equal_pt (x y : Pt) (w : World) : (Op.equal 81 (ptV x) (ptV y)).run Try.prog w = .ok (decide (x = y)) w := by
  have e1 : (Op.equalIn 10000 81 (ptV x) (ptV y)).run Try.prog w = .ok (decide (x = y)) w := by
    obtain ⟨x1, x2⟩ := x
    obtain ⟨y1, y2⟩ := y
    obtain ⟨i, hi, _⟩ := info_parts (show (Try.prog.info? 3).map (fun i => (i.zero, i.size, i.bytes)) = some (some (.int .i64 0), 1, 8) by kernel_rfl)
    rw [Go.run_equalIn_array w 9999 _ _ Try.underlying81 hi, show Try.prog.cellsOf 3 = 1 by kernel_rfl, show List.range 2 = [0, 1] from rfl]
    simp only [Op.eqItems]
    go_simp
    by_cases h1 : x1 = y1 <;> by_cases h2 : x2 = y2 <;> simp [h1, h2, Int.ofNat_inj]
  exact e1
theorem pt_ok : KeyOk Try.prog 81 ptV := by
  refine KeyOk.asking (kind := _) Try.underlying81 (fun e x w => ?_) (fun x y => rfl) equal_pt (fun x => ?_)
  · kernel_rfl
  · simp [Instr.sameBits]
theorem zero_xr (w : World) : (zeroValue 54).run Try.prog w = .ok (.agg #[.bool false, .slice none 0 0, .slice none 0 0]) w := by kernel_rfl
end Ch
end Go.Proofs.Ytkinapdfmgfdfaa
namespace Go.Proofs.Ytkinapdfmgfdfaa
open Go.RowKit
namespace Ch
open Nm
section
variable {α β : Type} [DecidableEq α]
theorem putL_keys (l : List (α × β)) (x : α) (y : β) : (putL l x y).map (·.1) = if x ∈ l.map (·.1) then l.map (·.1) else l.map (·.1) ++ [x] := by
  induction l with
  | nil => simp [putL]
  | cons p l ih =>
    unfold putL
    by_cases h : x = p.1
    · simp [h]
    · rw [if_neg h, List.map_cons, ih]
      by_cases hm : x ∈ l.map (·.1)
      · rw [if_pos hm, if_pos (by simp only [List.map_cons, List.mem_cons]; exact .inr hm)]; rfl
      · rw [if_neg hm, if_neg (by simp only [List.map_cons, List.mem_cons]; exact fun e => e.elim h hm)]; rfl
theorem putL_mem {l : List (α × β)} (hn : (l.map (·.1)).Nodup) {x : α} {y : β} {p : α × β} (h : p ∈ putL l x y) : p = (x, y) ∨ (p ∈ l ∧ p.1 ≠ x) := by
  induction l with
  | nil => simp [putL] at h; exact .inl h
  | cons q l ih =>
    rw [List.map_cons, List.nodup_cons] at hn
    unfold putL at h
    by_cases hx : x = q.1
    · rw [if_pos hx] at h
      rcases List.mem_cons.1 h with h | h
      · exact .inl h
      · exact .inr ⟨List.mem_cons_of_mem _ h, fun e => hn.1 (by rw [← hx, ← e]; exact List.mem_map_of_mem h)⟩
    · rw [if_neg hx] at h
      rcases List.mem_cons.1 h with rfl | h
      · exact .inr ⟨List.mem_cons_self .., fun e => hx e.symm⟩
      · rcases ih hn.2 h with h | ⟨h, h'⟩
        · exact .inl h
        · exact .inr ⟨List.mem_cons_of_mem _ h, h'⟩
theorem look_mem {l : List (α × β)} {x : α} {y : β} (h : look l x = some y) : (x, y) ∈ l := by
  induction l with
  | nil => cases h
  | cons p l ih =>
    unfold look at h ih
    rw [List.find?_cons] at h
    by_cases hx : x = p.1
    · simp only [hx, decide_true, Option.map_some, Option.some.injEq] at h
      rw [hx, ← h]; exact List.mem_cons_self ..
    · simp only [hx, decide_false] at h
      exact List.mem_cons_of_mem _ (ih h)
theorem look_none {l : List (α × β)} {x : α} (h : look l x = none) : x ∉ l.map (·.1) := by
  induction l with
  | nil => simp
  | cons p l ih =>
    unfold look at h ih
    rw [List.find?_cons] at h
    by_cases hx : x = p.1
    · simp [hx] at h
    · simp only [hx, decide_false] at h
      simp only [List.map_cons, List.mem_cons]
      rintro (e | e)
      · exact hx e
      · exact ih h e
end
/-- the map of what is open, after the contributions C -/
structure Next (dec : Pt → Bool) (w : World) (m : Nat) (C : List (Pt × Rat)) (l : List (Pt × Value)) : Prop where
  map : MapIs ptV id w m l
  nd : (l.map (·.1)).Nodup
  val : ∀ p ∈ l, XR w p.2 (at_ C p.1) ∧ dec p.1 = false ∧ ∃ c ∈ C, c.1 = p.1
  all : ∀ c ∈ C, dec c.1 = false → c.1 ∈ l.map (·.1)
  len : l.length ≤ C.length
variable {dec : Pt → Bool} {w w' : World} {m : Nat} {C : List (Pt × Rat)} {l : List (Pt × Value)}
theorem Next.start (dec : Pt → Bool) (h : MapIs ptV id w m []) : Next dec w m [] [] := ⟨h, by simp, (fun p hp => by cases hp), (fun c hc => by cases hc), Nat.le_refl _⟩
theorem Next.keep (h : Next dec w m C l) (hm : MapIs ptV id w' m l) (hk : Kp w w') : Next dec w' m C l := ⟨hm, h.nd, fun p hp => ⟨(h.val p hp).1.kp hk, (h.val p hp).2⟩, h.all, h.len⟩
theorem Next.ext (h : Next dec w m C l) (hb : Below w.heap.size w w') : Next dec w' m C l := h.keep (h.map.ext hb) (Kp.ext hb)
theorem Next.skip (h : Next dec w m C l) {c : Pt × Rat} (hc : dec c.1 = true) : Next dec w m (C ++ [c]) l := by
  refine ⟨h.map, h.nd, fun p hp => ?_, fun d hd hx => ?_, by rw [List.length_append]; exact Nat.le_trans h.len (Nat.le_add_right _ _)⟩
  · obtain ⟨h1, h2, e, he, h3⟩ := h.val p hp
    refine ⟨?_, h2, e, List.mem_append_left _ he, h3⟩
    rw [at_snoc, if_neg (fun e => by rw [e, h2] at hc; cases hc)]; exact h1
  · rcases List.mem_append.1 hd with hd | hd
    · exact h.all d hd hx
    · simp at hd; subst hd; rw [hc] at hx; cases hx
theorem at_none {t : Pt} (h : ∀ c ∈ C, c.1 ≠ t) : at_ C t = 0 := by
  unfold at_
  rw [List.filter_eq_nil_iff.2 (fun c hc => by simp [h c hc])]; rfl
theorem Next.none (h : Next dec w m C l) {t : Pt} (hd : dec t = false) (hl : look l t = none) : at_ C t = 0 :=
  at_none fun c hc e => look_none hl (by rw [← e]; exact h.all c hc (by rw [e]; exact hd))
theorem Next.some (h : Next dec w m C l) {t : Pt} {v : Value} (hl : look l t = some v) : XR w v (at_ C t) := (h.val _ (look_mem hl)).1
theorem Next.put (h : Next dec w m C l) {c : Pt × Rat} (hc : dec c.1 = false) {v : Value} (hv : XR w' v (at_ C c.1 + c.2)) (hm : MapIs ptV id w' m (putL l c.1 v)) (hk : Kp w w') : Next dec w' m (C ++ [c]) (putL l c.1 v) := by
  refine ⟨hm, ?_, fun p hp => ?_, fun d hd hx => ?_, by rw [List.length_append]; exact Nat.le_trans (putL_length l c.1 v) (Nat.add_le_add_right h.len 1)⟩
  · rw [putL_keys]
    split
    · exact h.nd
    · next hn =>
      refine List.nodup_append.2 ⟨h.nd, by simp, fun a ha b hb e => ?_⟩
      simp at hb; subst hb; subst e; exact hn ha
  · rcases putL_mem h.nd hp with rfl | ⟨hp, hne⟩
    · refine ⟨?_, hc, c, by simp, rfl⟩
      rw [at_snoc, if_pos rfl]; exact hv
    · obtain ⟨h1, h2, e, he, h3⟩ := h.val p hp
      refine ⟨?_, h2, e, List.mem_append_left _ he, h3⟩
      rw [at_snoc, if_neg (fun e => hne e.symm)]; exact h1.kp hk
  · rw [putL_keys]
    rcases List.mem_append.1 hd with hd | hd
    · split
      · exact h.all d hd hx
      · exact List.mem_append_left _ (h.all d hd hx)
    · simp at hd; subst hd
      split
      · next hn => exact hn
      · simp
/-- what is open after so many pairs: f says how much, at each place -/
structure Open (f : Pt → Rat) (k : Nat) (w : World) (m : Nat) (l : List (Pt × Value)) : Prop where
  map : MapIs ptV id w m l
  nd : (l.map (·.1)).Nodup
  val : ∀ p ∈ l, XR w p.2 (f p.1) ∧ p.1.1 + p.1.2 ≤ k
  all : ∀ a, a ∉ l.map (·.1) → f a = 0
  len : l.length ≤ 3 ^ k
theorem Open.ext {f : Pt → Rat} {k : Nat} (h : Open f k w m l) (hb : Below w.heap.size w w') : Open f k w' m l := ⟨h.map.ext hb, h.nd, fun p hp => ⟨(h.val p hp).1.ext hb, (h.val p hp).2⟩, h.all, h.len⟩
/-- the contributions of pairs of the map -/
def outs (u d e : Rat) (f : Pt → Rat) (done : List (Pt × Value)) : List (Pt × Rat) := (done.map (·.1)).flatMap (out u d e f)
theorem outs_snoc (u d e : Rat) (f : Pt → Rat) (done : List (Pt × Value)) (p : Pt × Value) : outs u d e f (done ++ [p]) = outs u d e f done ++ out u d e f p.1 := by
  unfold outs; rw [List.map_append, List.flatMap_append]; simp
theorem outs_len (u d e : Rat) (f : Pt → Rat) (done : List (Pt × Value)) : (outs u d e f done).length = 3 * done.length := by
  induction done with
  | nil => rfl
  | cons p l ih =>
    unfold outs at ih ⊢
    rw [List.map_cons, List.flatMap_cons, List.length_append, ih, List.length_cons]
    have : (out u d e f p.1).length = 3 := rfl
    omega
theorem sumL_perm_flat {g : Pt → Rat} {a b : List Pt} (h : a.Perm b) : sumL (a.map g) = sumL (b.map g) := sumL_perm (h.map g)
theorem out_near {u d e : Rat} {f : Pt → Rat} {a : Pt} {c : Pt × Rat} (h : c ∈ out u d e f a) : c.1.1 + c.1.2 ≤ a.1 + a.2 + 1 := by
  unfold out tr at h
  simp only [List.map_cons, List.map_nil, List.mem_cons, List.not_mem_nil, or_false] at h
  rcases h with rfl | rfl | rfl <;> simp <;> omega
/-- a whole round: what is open next, and what has been decided -/
theorem Next.done {u d e : Rat} {f : Pt → Rat} {k n : Nat} {mo : Nat} {lo done : List (Pt × Value)} {wo : World} (h : Next dec w m (outs u d e f done) l) (ho : Open f k wo mo lo) (hp : done.Perm lo) (hk : k ≤ n) :
    Open (nextF dec u d e n f) (k + 1) w m l ∧ dec_ dec (outs u d e f done) = moreF dec u d e n f := by
  have hpk : (done.map (·.1)).Perm (lo.map (·.1)) := hp.map _
  have hkeys : ∀ a ∈ done.map (·.1), a.1 ≤ n ∧ a.2 ≤ n := fun a ha => by
    obtain ⟨p, hp', rfl⟩ := List.mem_map.1 (hpk.mem_iff.1 ha)
    have := (ho.val p hp').2
    omega
  have hnd : (done.map (·.1)).Nodup := hpk.nodup_iff.2 ho.nd
  have hz : ∀ a, a ∉ done.map (·.1) → f a = 0 := fun a ha => ho.all a (fun h => ha (hpk.mem_iff.2 h))
  have hat : ∀ t, at_ (outs u d e f done) t = at_ ((grid n).flatMap (out u d e f)) t := fun t => at_keys hnd hkeys hz t
  refine ⟨⟨h.map, h.nd, fun p hp' => ?_, fun a ha => ?_, ?_⟩, dec_keys dec hnd hkeys hz⟩
  · obtain ⟨h1, h2, c, hc, h3⟩ := h.val p hp'
    constructor
    · unfold nextF; rw [if_neg (by simp [h2]), ← hat]; exact h1
    · unfold outs at hc
      obtain ⟨b, hb, hc⟩ := List.mem_flatMap.1 hc
      obtain ⟨q, hq, rfl⟩ := List.mem_map.1 (hpk.mem_iff.1 hb)
      have h4 := (ho.val q hq).2
      have h5 := out_near hc
      rw [h3] at h5; omega
  · unfold nextF
    by_cases hd : dec a = true
    · rw [if_pos hd]
    · rw [if_neg hd, ← hat]
      refine at_none fun c hc e => ha ?_
      rw [← e]
      exact h.all c hc (by rw [e]; simpa using hd)
  · have h1 := h.len
    rw [outs_len, hp.length_eq] at h1
    have h2 := ho.len
    have h3 : 3 ^ (k + 1) = 3 * 3 ^ k := by rw [Nat.pow_succ, Nat.mul_comm]
    rw [h3]; omega
theorem Open.start (dec : Pt → Bool) (u d e : Rat) (n : Nat) {v : Value} (hm : MapIs ptV id w m [((0, 0), v)]) (hv : XR w v 1) : Open (chF dec u d e n 0) 0 w m [((0, 0), v)] := by
  refine ⟨hm, by simp, fun p hp => ?_, fun a ha => ?_, by simp⟩
  · simp at hp; subst hp; exact ⟨by simpa [chF] using hv, by simp⟩
  · simp at ha; unfold chF; rw [if_neg ha]
/-- three cells of an exact number -/
structure X3 where
  b : Bool
  a1 : Option Addr
  n1 : Nat
  c1 : Nat
  a2 : Option Addr
  n2 : Nat
  c2 : Nat
abbrev x3C (t : X3) : Array Value := #[.bool t.b, .slice t.a1 t.n1 t.c1, .slice t.a2 t.n2 t.c2]
abbrev x3V (t : X3) : Value := .agg #[.bool t.b, .slice t.a1 t.n1 t.c1, .slice t.a2 t.n2 t.c2]
def x3L (t : X3) : List Value := [.bool t.b, .slice t.a1 t.n1 t.c1, .slice t.a2 t.n2 t.c2]
theorem XR.x3 {w : World} {v : Value} {q : Rat} (h : XR w v q) : ∃ t : X3, v = x3V t ∧ XR w (x3V t) q := by
  obtain ⟨v1, v2, rfl, h1, h2⟩ := h
  have e1 : ∃ a n c, v1 = .slice a n c := by obtain ⟨a, c, hv, _⟩ := h1; exact ⟨a, _, c, hv⟩
  have e2 : ∃ a n c, v2 = .slice a n c := by obtain ⟨a, c, hv, _⟩ := h2; exact ⟨a, _, c, hv⟩
  obtain ⟨a1, n1, c1, rfl⟩ := e1
  obtain ⟨a2, n2, c2, rfl⟩ := e2
  exact ⟨⟨_, a1, n1, c1, a2, n2, c2⟩, rfl, ⟨_, _, rfl, h1, h2⟩⟩
theorem x3_one (t : X3) : ∀ u ∈ x3L t, u.oneCell' = true := by
  intro u hu; simp [x3L] at hu; rcases hu with rfl | rfl | rfl <;> rfl
theorem x3_nw (t : X3) : ∀ (j : Nat) (u : Value), (x3C t)[j]? = some u → isWord u = false := by
  intro j u h
  match j with
  | 0 => cases h; rfl
  | 1 => cases h; rfl
  | 2 => cases h; rfl
  | n + 3 => simp at h
theorem x3_nw' (t : X3) : ∀ u ∈ x3L t, isWord u = false := by
  intro u hu; simp [x3L] at hu; rcases hu with rfl | rfl | rfl <;> rfl
end Ch
end Go.Proofs.Ytkinapdfmgfdfaa
