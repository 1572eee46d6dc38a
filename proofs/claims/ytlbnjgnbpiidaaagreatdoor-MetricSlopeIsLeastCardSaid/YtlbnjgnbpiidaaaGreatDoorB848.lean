/- What the law of the least slope wants beyond the groups. -/
import Derived.Test.YtlbnjgnbpiidaaaGreatDoorB837
namespace Go.Proofs.YtlbnjgnbpiidaaaGreatDoor
open Go.ChangeShapes Go.WideShapes Go.ChangeAt Go.RowKit

end Go.Proofs.YtlbnjgnbpiidaaaGreatDoor
namespace Go.Proofs.YtlbnjgnbpiidaaaGreatDoor
open Go.RowKit

end Go.Proofs.YtlbnjgnbpiidaaaGreatDoor
namespace Go.Proofs.YtlbnjgnbpiidaaaGreatDoor
open Go.RowKit
end Go.Proofs.YtlbnjgnbpiidaaaGreatDoor
namespace Go.Proofs.YtlbnjgnbpiidaaaGreatDoor
open Go.RowKit
end Go.Proofs.YtlbnjgnbpiidaaaGreatDoor
namespace Go.Proofs.YtlbnjgnbpiidaaaGreatDoor
open Go.RowKit

def icells (l : List Int) : List Value := l.map (Value.int .i64)
end Go.Proofs.YtlbnjgnbpiidaaaGreatDoor
namespace Go.Proofs.YtlbnjgnbpiidaaaGreatDoor
open Go.RowKit
namespace Nm
def aA : List Arm → Rat
  | [] => 0
  | a :: r => spA a.n a.q + aA r
def rsL (s : Rat) : List Arm → Rat
  | [] => 0
  | a :: r => rsQ s a + rsL s r
theorem rs_sum (s : Rat) : ∀ l : List Arm, rsL s l = (aA l - 2 * (s * aC l)) + s * (s * aB l)
  | [] => by simp only [rsL, aA, aB, aC]; grind
  | a :: r => by
    have h := rs_sum s r
    simp only [rsL, aA, aB, aC, rsQ, h]; grind
theorem rsq_nn (a : Rat) : 0 ≤ a * a := by
  rcases (Rat.le_total : (0 : Rat) ≤ a ∨ a ≤ 0) with h | h
  · exact Rat.mul_nonneg h h
  · have h1 : 0 ≤ -a := by grind
    have := Rat.mul_nonneg h1 h1
    grind
def Arm.Ok (a : Arm) : Prop := 1 ≤ a.n ∧ posB a.n a.q = true
theorem Arm.Ok.parts {a : Arm} (h : a.Ok) : 0 ≤ spB a.n a.q ∧ (spB a.n a.q = 0 → spC a.n a.q = 0) := by
  obtain ⟨h1, h2⟩ := h
  unfold posB at h2
  rw [if_neg (by omega), posB1_iff] at h2
  obtain ⟨_, _, hA, hB, hC⟩ := h2
  have hn := n_ne h1
  have hp : (0 : Rat) < (a.n : Rat) := by
    have := Rat.intCast_lt_intCast.2 (show (0 : Int) < a.n by omega)
    simpa using this
  have e1 : dfB a.n a.q = (a.n : Rat) * spB a.n a.q := by unfold dfB spB; grind
  have e2 : dfC a.n a.q = (a.n : Rat) * spC a.n a.q := by unfold dfC spC; grind
  constructor
  · rw [e1] at hB
    rcases (Rat.le_total : (0 : Rat) ≤ spB a.n a.q ∨ spB a.n a.q ≤ 0) with h | h
    · exact h
    · by_cases h0 : spB a.n a.q = 0
      · rw [h0]; exact Rat.le_refl
      · have hlt : spB a.n a.q < 0 := by grind
        have := Rat.mul_pos hp (show 0 < -spB a.n a.q by grind)
        grind
  · intro h0
    rw [h0] at e1
    rw [e1] at hC
    have hC' : dfC a.n a.q * dfC a.n a.q ≤ 0 := by grind
    have := rsq_nn (dfC a.n a.q)
    have h3 : dfC a.n a.q * dfC a.n a.q = 0 := by grind
    have h4 : dfC a.n a.q = 0 := by
      rcases Rat.mul_eq_zero.1 h3 with h | h <;> exact h
    rw [e2] at h4
    rcases Rat.mul_eq_zero.1 h4 with h | h
    · exact absurd h hn
    · exact h
theorem arms_parts : ∀ {l : List Arm}, (∀ a ∈ l, a.Ok) → 0 ≤ aB l ∧ (aB l = 0 → aC l = 0)
  | [], _ => ⟨Rat.le_refl, fun _ => rfl⟩
  | a :: r, h => by
    obtain ⟨h1, h2⟩ := arms_parts (l := r) (fun x hx => h x (List.mem_cons_of_mem _ hx))
    obtain ⟨h3, h4⟩ := (h a (List.mem_cons_self ..)).parts
    simp only [aB, aC]
    refine ⟨by grind, fun e => ?_⟩
    have e1 : spB a.n a.q = 0 := by grind
    have e2 : aB r = 0 := by grind
    rw [h2 e2, h4 e1]; exact Rat.add_zero 0
/-- no other slope leaves less -/
theorem slope_least {l : List Arm} (h : ∀ a ∈ l, a.Ok) (t : Rat) : ¬ rsL t l < rsL (slQ l) l := by
  obtain ⟨hB, hC⟩ := arms_parts h
  rw [rs_sum, rs_sum]
  unfold slQ
  by_cases h0 : aB l = 0
  · rw [if_pos h0, h0, hC h0]; grind
  · rw [if_neg h0]
    generalize aA l = A at *
    generalize aB l = B at *
    generalize aC l = C at *
    have e : (A - 2 * (t * C) + t * (t * B)) - (A - 2 * (C / B * C) + C / B * (C / B * B)) = B * ((t - C / B) * (t - C / B)) := by grind
    have := Rat.mul_nonneg hB (rsq_nn (t - C / B))
    grind
/-- what adjusting changes over the arms -/
def chL (k mid : Rat) : List Arm → Rat
  | [] => 0
  | a :: r => (a.q.x - (a.n : Rat) * adM k mid a) + chL k mid r
theorem ch_sum (k mid : Rat) : ∀ {l : List Arm}, (∀ a ∈ l, 1 ≤ a.n) → chL k mid l = k * (aY l - (aN l : Rat) * mid)
  | [], _ => by simp only [chL, aY, aN, Rat.intCast_zero]; grind
  | a :: r, h => by
    have h1 := ch_sum k mid (l := r) (fun x hx => h x (List.mem_cons_of_mem _ hx))
    have hn := n_ne (h a (List.mem_cons_self ..))
    simp only [chL, aY, aN, adM, h1, Rat.intCast_add]
    grind
theorem aN_pos : ∀ {l : List Arm}, (∀ a ∈ l, 1 ≤ a.n) → l ≠ [] → 1 ≤ aN l
  | [], _, h => absurd rfl h
  | [a], h, _ => by simp only [aN]; have := h a (by simp); omega
  | a :: b :: r, h, _ => by
    have h1 := aN_pos (l := b :: r) (fun x hx => h x (List.mem_cons_of_mem _ hx)) (by simp)
    have := h a (by simp)
    show 1 ≤ a.n + aN (b :: r)
    omega
/-- adjusting does not change the sum -/
theorem adj_sum {l : List Arm} (k : Rat) (h : ∀ a ∈ l, 1 ≤ a.n) (hl : l ≠ []) : chL k (aY l / (aN l : Rat)) l = 0 := by
  rw [ch_sum k _ h]
  have hn := n_ne (aN_pos h hl)
  grind
/-- sums up to an arm, as they come -/
theorem aA_app : ∀ (l : List Arm) (a : Arm), aA (l ++ [a]) = aA l + spA a.n a.q
  | [], a => by simp only [List.nil_append, aA]; grind
  | b :: r, a => by have h := aA_app r a; simp only [List.cons_append, aA, h]; grind
theorem rsL_app (s : Rat) : ∀ (l : List Arm) (a : Arm), rsL s (l ++ [a]) = rsL s l + rsQ s a
  | [], a => by simp only [List.nil_append, rsL]; grind
  | b :: r, a => by have h := rsL_app s r a; simp only [List.cons_append, rsL, h]; grind
theorem chL_app (k mid : Rat) : ∀ (l : List Arm) (a : Arm), chL k mid (l ++ [a]) = chL k mid l + (a.q.x - (a.n : Rat) * adM k mid a)
  | [], a => by simp only [List.nil_append, chL]; grind
  | b :: r, a => by have h := chL_app k mid r a; simp only [List.cons_append, chL, h]; grind
end Nm
end Go.Proofs.YtlbnjgnbpiidaaaGreatDoor
namespace Go.Proofs.YtlbnjgnbpiidaaaGreatDoor
open Go.RowKit
namespace Nm
def veQ (n : Int) (q : Q5) : Rat := vrQ n q / (n : Rat)
def S3Post (w : World) (f : Int) (a b c : Rat) (e : Ending) (w' : World) : Prop := e = .returned (.tuple #[.agg #[.string (rtN f a), .string (rtD f a)], .agg #[.string (rtN f b), .string (rtD f b)], .agg #[.string (rtN f c), .string (rtD f c)], .int .i64 f]) ∧ Below w.heap.size w w'
theorem QL.ve {n : Int} {q : Q5} (h : QL q) (h0 : 2 ≤ n) (h1 : n ≤ 20000) : Ln 201 15 (veQ n q) :=
 ((h.vr h0 h1).div (ln_n (by omega) h1) (n_ne (by omega))).mono (by omega) (by omega)
theorem xs_3 {w : World} {a b d : Rat} {t1 t2 t3 : Y3} (ht1 : XR w (y3V t1) a) (ht2 : XR w (y3V t2) b) (ht3 : XR w (y3V t3) d) : XsQ (w.alloc (.cells #[.bool t1.b, .slice t1.a1 t1.n1 t1.c1, .slice t1.a2 t1.n2 t1.c2, .bool t2.b, .slice t2.a1 t2.n1 t2.c1, .slice t2.a2 t2.n2 t2.c2, .bool t3.b, .slice t3.a1 t3.n1 t3.c1, .slice t3.a2 t3.n2 t3.c2] 52)) [a, b, d] [t1, t2, t3] (some ⟨w.heap.size, 0, none⟩) 3 := by
 refine ⟨rfl, Sl.new _ _ _ 3 3 (by omega) (by decide), fun i t q h1 h2 => ?_⟩
 match i with
 | 0 =>
  obtain rfl : t1 = t := Option.some.inj h1
  obtain rfl : a = q := Option.some.inj h2
  exact ht1.ext (ext_alloc _ _)
 | 1 =>
  obtain rfl : t2 = t := Option.some.inj h1
  obtain rfl : b = q := Option.some.inj h2
  exact ht2.ext (ext_alloc _ _)
 | 2 =>
  obtain rfl : t3 = t := Option.some.inj h1
  obtain rfl : d = q := Option.some.inj h2
  exact ht3.ext (ext_alloc _ _)
 | i + 3 => simp at h1
theorem ratios3_at (a b d : Rat) (t1 t2 t3 : Y3) (w : World) (ht1 : XR w (y3V t1) a) (ht2 : XR w (y3V t2) b) (ht3 : XR w (y3V t3) d) (hf : (Fits a ∧ Sm a) ∧ (Fits b ∧ Sm b) ∧ (Fits d ∧ Sm d)) : Calls Tryz.prog 63 #[.slice (some ⟨w.heap.size, 0, none⟩) 3 3] (w.alloc (.cells #[.bool t1.b, .slice t1.a1 t1.n1 t1.c1, .slice t1.a2 t1.n2 t1.c2, .bool t2.b, .slice t2.a1 t2.n1 t2.c1, .slice t2.a2 t2.n2 t2.c2, .bool t3.b, .slice t3.a1 t3.n1 t3.c1, .slice t3.a2 t3.n2 t3.c2] 52)) (fun e w' => ∃ pa pc, e = .returned (.tuple #[.slice pa 3 pc, .int .i64 0]) ∧ Sl w' (.slice pa 3 pc) 3 ([a, b, d].flatMap rtC) ∧ Below w.heap.size w w') := by
 refine (ratios_at [a, b, d] [t1, t2, t3] (some ⟨w.heap.size, 0, none⟩) 3 _ (xs_3 ht1 ht2 ht3) (fun q hq => ?_) (by simp)).mono ?_
 ·simp only [List.mem_cons, List.not_mem_nil, or_false] at hq
  rcases hq with rfl | rfl | rfl
  ·exact hf.1
  ·exact hf.2.1
  ·exact hf.2.2
 ·rintro e w' ⟨a, c, rfl, hs, hb⟩
  exact ⟨a, c, rfl, hs, ext_trans (ext_alloc _ _) hb⟩
end Nm
end Go.Proofs.YtlbnjgnbpiidaaaGreatDoor

