/- The order of versions, in plain words: anti-symmetric, transitive, 0 just at equal versions that are right. -/
import Derived.Test.YtepgibhgjhjjaaaDoorVer3
namespace Go.Proofs.YtepgibhgjhjjaaaDoor
open Go.RowKit
namespace Vl
def T3 (a b c : Int) : Prop := a ≤ 0 → b ≤ 0 → c ≤ 0 ∧ (c = 0 → a = 0 ∧ b = 0)
theorem T3.or {a b c a' b' c' : Int} (h : T3 a b c) (k : T3 a' b' c') : T3 (orI a a') (orI b b') (orI c c') := by
  unfold T3 at h k
  unfold T3 orI
  by_cases ea : a = 0 <;> by_cases eb : b = 0 <;> by_cases ec : c = 0
  all_goals (first | rw [if_pos ea] | rw [if_neg ea])
  all_goals (first | rw [if_pos eb] | rw [if_neg eb])
  all_goals (first | rw [if_pos ec] | rw [if_neg ec])
  all_goals (intro h1 h2; refine ⟨?_, fun e => ?_⟩ <;> omega)
theorem T3.of {α : Type} {c : α → α → Int} (anti : ∀ x y, c y x = - c x y) (tr : ∀ x y z, c x y ≤ 0 → c y z ≤ 0 → c x z ≤ 0) (x y z : α) : T3 (c x y) (c y z) (c x z) := by
  intro h1 h2
  have h3 := tr x y z h1 h2
  refine ⟨h3, fun e => ?_⟩
  have a1 := anti x z
  have a2 := anti x y
  have a3 := anti y z
  have t1 := tr y z x h2 (by omega)
  have t2 := tr z x y (by omega) h1
  omega
theorem cmpI_T3 (x y z : Int) : T3 (cmpI x y) (cmpI y z) (cmpI x z) := T3.of cmpI_anti (fun _ _ _ => cmpI_trans) x y z
theorem cmpS_T3 (x y z : ByteArray) : T3 (cmpS x y) (cmpS y z) (cmpS x z) := T3.of cmpS_anti (fun _ _ _ => cmpS_trans) x y z
/-- a rank first, then what goes only within a rank -/
theorem T3.rank {x y z p q r : Int} (h : x = y → y = z → T3 p q r) : T3 (orI (cmpI x y) p) (orI (cmpI y z) q) (orI (cmpI x z) r) := by
  unfold T3 at h
  unfold T3 orI cmpI
  grind
theorem orI_anti {a b a' b' : Int} (h : a' = -a) (k : b' = -b) : orI a' b' = - orI a b := by
  unfold orI; grind
theorem orI_zero {a b : Int} : orI a b = 0 ↔ a = 0 ∧ b = 0 := by unfold orI; grind
def rk (s : ByteArray) : Int := if numB s.data.toList = true then 0 else 1
theorem cmpP_or (a b : ByteArray) : cmpP a b = orI (cmpI (rk a) (rk b)) (if numB a.data.toList = true then numP a b else cmpS a b) := by
  unfold cmpP orI cmpI rk
  by_cases h1 : numB a.data.toList = true <;> by_cases h2 : numB b.data.toList = true <;> simp [h1, h2]
theorem numP_anti (a b : ByteArray) : numP b a = - numP a b := orI_anti (cmpI_anti _ _) (cmpS_anti _ _)
theorem cmpP_anti (a b : ByteArray) : cmpP b a = - cmpP a b := by
  have h1 := numP_anti a b
  have h2 := cmpS_anti a b
  unfold cmpP; grind
theorem numP_T3 (a b c : ByteArray) : T3 (numP a b) (numP b c) (numP a c) := T3.or (cmpI_T3 _ _ _) (cmpS_T3 _ _ _)
theorem cmpP_T3 (a b c : ByteArray) : T3 (cmpP a b) (cmpP b c) (cmpP a c) := by
  rw [cmpP_or a b, cmpP_or b c, cmpP_or a c]
  refine T3.rank fun e1 e2 => ?_
  unfold rk at e1 e2
  by_cases h1 : numB a.data.toList = true
  · have h2 : numB b.data.toList = true := by grind
    simp only [h1, h2, if_true]; exact numP_T3 a b c
  · have h2 : ¬ numB b.data.toList = true := by grind
    simp only [if_neg h1, if_neg h2]; exact cmpS_T3 a b c
theorem cmpPs_anti : ∀ x y : List ByteArray, cmpPs y x = - cmpPs x y
  | [], [] => rfl
  | [], _ :: _ => rfl
  | _ :: _, [] => rfl
  | x :: xs, y :: ys => by simp only [cmpPs]; exact orI_anti (cmpP_anti _ _) (cmpPs_anti xs ys)
theorem cmpPs_T3 : ∀ x y z : List ByteArray, T3 (cmpPs x y) (cmpPs y z) (cmpPs x z)
  | [], [], [] => by simp [cmpPs, T3]
  | [], [], _ :: _ => by simp [cmpPs, T3]
  | [], _ :: _, [] => by simp [cmpPs, T3]
  | [], _ :: _, _ :: _ => by simp [cmpPs, T3]
  | _ :: _, [], _ => by simp [cmpPs, T3]
  | _ :: _, _ :: _, [] => by simp [cmpPs, T3]
  | x :: xs, y :: ys, z :: zs => by simp only [cmpPs]; exact T3.or (cmpP_T3 x y z) (cmpPs_T3 xs ys zs)
def rkE (l : List ByteArray) : Int := if l = [] then 1 else 0
def preV (p q : List ByteArray) : Int := orI (cmpI (rkE p) (rkE q)) (cmpPs p q)
theorem cmpVer_or (x y : Ver) : cmpVer x y = orI (cmpI x.ma y.ma) (orI (cmpI x.mi y.mi) (orI (cmpI x.pa y.pa) (preV x.pre y.pre))) := by
  unfold cmpVer preV rkE
  by_cases h1 : x.pre = []
  · by_cases h2 : y.pre = []
    · simp only [h1, h2, if_true, cmpPs, cmpI_self]; unfold orI; grind
    · simp only [h1, if_true, if_neg h2]; unfold orI cmpI; grind
  · by_cases h2 : y.pre = []
    · simp only [h2, if_true, if_neg h1]; unfold orI cmpI; grind
    · simp only [if_neg h1, if_neg h2, cmpI_self]; unfold orI; grind
theorem cmpVer_anti (x y : Ver) : cmpVer y x = - cmpVer x y := by
  rw [cmpVer_or, cmpVer_or]
  exact orI_anti (cmpI_anti _ _) (orI_anti (cmpI_anti _ _) (orI_anti (cmpI_anti _ _) (orI_anti (cmpI_anti _ _) (cmpPs_anti _ _))))
theorem cmpVer_T3 (x y z : Ver) : T3 (cmpVer x y) (cmpVer y z) (cmpVer x z) := by
  rw [cmpVer_or x y, cmpVer_or y z, cmpVer_or x z]
  exact T3.or (cmpI_T3 _ _ _) (T3.or (cmpI_T3 _ _ _) (T3.or (cmpI_T3 _ _ _) (T3.or (cmpI_T3 _ _ _) (cmpPs_T3 _ _ _))))
theorem whole_trim {l : List UInt8} (h : wholeB l = true) : l = [48] ∧ trimZ l = [] ∨ trimZ l = l ∧ l ≠ [] := by
  cases l with
  | nil => simp [wholeB] at h
  | cons c l =>
    by_cases hc : (c.toNat : Int) = 48
    · left
      have hc' : c = 48 := UInt8.toNat_inj.1 (by simpa using (by omega : c.toNat = 48))
      subst hc'
      cases l with
      | nil => exact ⟨rfl, rfl⟩
      | cons d l => simp [wholeB, zeroAt] at h
    · right; simp [trimZ, hc]
theorem cmpP_zero {a b : ByteArray} (ha : preOk a = true) (hb : preOk b = true) (h : cmpP a b = 0) : a = b := by
  unfold preOk at ha hb
  have na : numB a.data.toList = true → wholeB a.data.toList = true := fun h => by
    unfold numB at h; grind
  have nb : numB b.data.toList = true → wholeB b.data.toList = true := fun h => by
    unfold numB at h; grind
  unfold cmpP at h
  by_cases h1 : numB a.data.toList = true
  · rw [if_pos h1] at h
    by_cases h2 : numB b.data.toList = true
    · rw [if_pos h2] at h
      obtain ⟨_, h4⟩ := orI_zero.1 h
      have ht : trimZ a.data.toList = trimZ b.data.toList := by
        have := cmpS_zero h4
        rw [← trimA_list, ← trimA_list, this]
      apply bytes_ext
      rcases whole_trim (na h1) with ⟨e1, e2⟩ | ⟨e1, e2⟩ <;> rcases whole_trim (nb h2) with ⟨f1, f2⟩ | ⟨f1, f2⟩
      · rw [e1, f1]
      · rw [e2, f1] at ht; exact (f2 ht.symm).elim
      · rw [e1, f2] at ht; exact (e2 ht).elim
      · rw [e1, f1] at ht; exact ht
    · rw [if_neg h2] at h; omega
  · rw [if_neg h1] at h
    by_cases h2 : numB b.data.toList = true
    · rw [if_pos h2] at h; omega
    · rw [if_neg h2] at h; exact cmpS_zero h
theorem cmpP_self (a : ByteArray) : cmpP a a = 0 := by
  have := cmpP_anti a a; omega
theorem cmpPs_zero : ∀ {x y : List ByteArray}, (∀ s ∈ x, preOk s = true) → (∀ s ∈ y, preOk s = true) → cmpPs x y = 0 → x = y
  | [], [], _, _, _ => rfl
  | [], _ :: _, _, _, h => by simp [cmpPs] at h
  | _ :: _, [], _, _, h => by simp [cmpPs] at h
  | x :: xs, y :: ys, h1, h2, h => by
    simp only [cmpPs] at h
    obtain ⟨h3, h4⟩ := orI_zero.1 h
    rw [cmpP_zero (h1 x (by simp)) (h2 y (by simp)) h3, cmpPs_zero (fun s hs => h1 s (by simp [hs])) (fun s hs => h2 s (by simp [hs])) h4]
theorem chk_pre {x : Ver} (h : chkVer x = 0) : ∀ s ∈ x.pre, preOk s = true := by
  unfold chkVer at h
  have : x.pre.all preOk = true := by grind
  simpa using this
theorem cmpVer_zero {x y : Ver} (hx : chkVer x = 0) (hy : chkVer y = 0) : decide (cmpVer x y = 0) = sameVer x y := by
  rw [Bool.eq_iff_iff, decide_eq_true_iff]
  constructor
  · intro h
    rw [cmpVer_or] at h
    obtain ⟨h1, h⟩ := orI_zero.1 h
    obtain ⟨h2, h⟩ := orI_zero.1 h
    obtain ⟨h3, h⟩ := orI_zero.1 h
    obtain ⟨_, h⟩ := orI_zero.1 h
    unfold sameVer
    simp only [cmpI_zero h1, cmpI_zero h2, cmpI_zero h3, cmpPs_zero (chk_pre hx) (chk_pre hy) h, decide_true]; rfl
  · intro h
    unfold sameVer at h
    simp only [Bool.and_eq_true, decide_eq_true_iff] at h
    obtain ⟨⟨⟨h1, h2⟩, h3⟩, h4⟩ := h
    have e : x = y := by cases x; cases y; simp_all
    subst e
    have := cmpVer_anti x x
    omega
theorem cmpVer_bare (x : Ver) (h : x.pre ≠ []) : cmpVer x { x with pre := [] } = -1 := by
  unfold cmpVer
  simp only [cmpI_self]
  simp [orI, h]
theorem cmpVer_tri (x y : Ver) : -1 ≤ cmpVer x y ∧ cmpVer x y ≤ 1 := by
  have t1 := cmpI_tri x.ma y.ma
  have t2 := cmpI_tri x.mi y.mi
  have t3 := cmpI_tri x.pa y.pa
  have t4 := cmpI_tri (rkE x.pre) (rkE y.pre)
  have t5 : ∀ p q : List ByteArray, -1 ≤ cmpPs p q ∧ cmpPs p q ≤ 1 := by
    intro p
    induction p with
    | nil => intro q; cases q <;> simp [cmpPs]
    | cons a p ih =>
      intro q
      cases q with
      | nil => simp [cmpPs]
      | cons b q =>
        simp only [cmpPs]
        have := ih q
        have c1 := cmpI_tri ((trimA a).size : Int) ((trimA b).size : Int)
        have c2 := cmpS_tri (trimA a) (trimA b)
        have c3 := cmpS_tri a b
        have : -1 ≤ cmpP a b ∧ cmpP a b ≤ 1 := by unfold cmpP numP orI; grind
        unfold orI; grind
  have t6 := t5 x.pre y.pre
  rw [cmpVer_or]
  unfold preV orI; grind
end Vl
end Go.Proofs.YtepgibhgjhjjaaaDoor
