/- Plain: the moments of two lists, one behind the other, are those of both, added. No program stands in it. -/
import Derived.Test.YtilolnjbpokdnaaGreatDoorMomL
import Derived.Test.YtilolnjbpokdnaaGreatDoorMomQ
namespace Go.Proofs.YtilolnjbpokdnaaGreatDoor
open Go.RowKit
namespace Nm
theorem showD_int (z : Int) : showD (z : Rat) = ⟨#[49]⟩ := by
  unfold showD
  rw [show ((z : Rat)).den = 1 from rfl, decS_small (by decide)]
  rfl
theorem sm_int {z : Int} (h : Ln 40 0 (z : Rat)) : smF (showN (z : Rat)) (showD (z : Rat)) = 0 := by
  have h1 := (back (Ln40.fits h)).1
  have h2 := ln_lgB h (by decide)
  unfold lgB at h2
  unfold smF
  rw [if_neg (fun e => e h1), if_neg (fun e => e (showD_int z)), if_neg (of_decide_eq_false h2)]
theorem M5Ok.list : ∀ (l : List PX) {k : Nat} {m : M5}, badX l = false → M5Ok k m → M5Ok (k + l.length) (m5L m l)
  | [], _, _, _, h => h
  | p :: r, k, m, hb, h => by
    have e : badX (p :: r) = if okP p then badX r else true := rfl
    by_cases hp : okP p = true
    · rw [e, if_pos hp] at hb
      have h9 := M5Ok.list r hb (h.step hp)
      rw [show k + 1 + r.length = k + (p :: r).length by simp only [List.length_cons]; omega] at h9
      exact h9
    · rw [e, if_neg hp] at hb; cases hb
theorem sums_ln {l : List PX} (h : sumF l = 0) : M5Ln (m5L m5z l) := by
  obtain ⟨h1, h2⟩ := sumF_parts h
  have h3 := M5Ok.list l h2 M5Ok.zero
  rw [Nat.zero_add] at h3
  exact h3.ln h1
theorem rq_back {m : M5} (h : M5Ln m) : (m5q m).r.q = m5q m := by
  show (⟨rQ (showN (m.x : Rat)) (showD (m.x : Rat)), rQ (showN (m.y : Rat)) (showD (m.y : Rat)), rQ (showN (m.xx : Rat)) (showD (m.xx : Rat)), rQ (showN (m.yy : Rat)) (showD (m.yy : Rat)), rQ (showN (m.xy : Rat)) (showD (m.xy : Rat))⟩ : Q5) = _
  rw [(back (Ln40.fits h.x)).2, (back (Ln40.fits h.y)).2, (back (Ln40.fits h.xx)).2, (back (Ln40.fits h.yy)).2, (back (Ln40.fits h.xy)).2]
  rfl
theorem sm_zero {a : RT} {l : List RT} (h : smF a.n a.d = 0) : smL (a :: l) = smL l := by
  show (if smF a.n a.d ≠ 0 then smF a.n a.d else smL l) = smL l
  rw [if_neg (fun e => e h)]
theorem sm_sums {m : M5} (h : M5Ln m) : smL (m5q m).r.l = 0 := by
  show smL [shR (m.x : Rat), shR (m.y : Rat), shR (m.xx : Rat), shR (m.yy : Rat), shR (m.xy : Rat)] = 0
  rw [sm_zero (a := shR (m.x : Rat)) (sm_int h.x), sm_zero (a := shR (m.y : Rat)) (sm_int h.y), sm_zero (a := shR (m.xx : Rat)) (sm_int h.xx), sm_zero (a := shR (m.yy : Rat)) (sm_int h.yy), sm_zero (a := shR (m.xy : Rat)) (sm_int h.xy)]
  rfl
/-- what Sum writes is right -/
theorem mom_sums {l : List PX} (h : sumF l = 0) : momF (l.length : Int) (m5q (m5L m5z l)).r = 0 := by
  have h1 := (sumF_parts h).1
  have h2 := sums_ln h
  unfold momF
  rw [if_neg (by omega), if_neg (fun e => e (sm_sums h2)), rq_back h2, if_pos (pos_sums l)]
theorem badX_append : ∀ (a b : List PX), badX (a ++ b) = (badX a || badX b)
  | [], b => by simp [badX]
  | p :: r, b => by
    show (if okP p then badX (r ++ b) else true) = ((if okP p then badX r else true) || badX b)
    rw [badX_append r b]
    cases okP p <;> simp
theorem sumF_app {a b : List PX} (ha : sumF a = 0) (hb : sumF b = 0) : sumF (a ++ b) = if 20000 < a.length + b.length then 2 else 0 := by
  unfold sumF
  rw [List.length_append, badX_append, (sumF_parts ha).2, (sumF_parts hb).2]
  rfl
theorem add_is {a b : List PX} (ha : sumF a = 0) (hb : sumF b = 0) (h : sumF (a ++ b) = 0) :
    adF (a.length : Int) (b.length : Int) (m5q (m5L m5z a)).r (m5q (m5L m5z b)).r = 0 ∧ adA (a.length : Int) (b.length : Int) (m5q (m5L m5z a)).r (m5q (m5L m5z b)).r = mrA ((a ++ b).length : Int) (m5q (m5L m5z (a ++ b))).r := by
  have hl := (sumF_parts h).1
  rw [List.length_append] at hl
  have e : q5a (m5q (m5L m5z a)).r.q (m5q (m5L m5z b)).r.q = m5q (m5L m5z (a ++ b)) := by
    rw [rq_back (sums_ln ha), rq_back (sums_ln hb), ← m5q_a, sums_add]
  have hF : adF (a.length : Int) (b.length : Int) (m5q (m5L m5z a)).r (m5q (m5L m5z b)).r = 0 := by
    unfold adF
    rw [if_neg (fun x => x (mom_sums ha)), if_neg (fun x => x (mom_sums hb)), if_neg (by omega), e]
    unfold wrF
    rw [(sums_ln h).lg]
    rfl
  refine ⟨hF, ?_⟩
  unfold adA
  rw [if_pos hF, if_pos hF, e, List.length_append, Int.natCast_add]
end Nm
end Go.Proofs.YtilolnjbpokdnaaGreatDoor
