/- The order of versions, in plain words: anti-symmetric, transitive, 0 just at equal versions that are right. Plain: cuts between versions, ranges as they are given, what is wrong with them, and what the laws on sets of versions want. No program stands in it. What a region that draws its order holds on to, where it ends in a store into a block of the call's own. No program stands in it. Rows: blocks of which all cells are known; a whole row read, and written. No program stands in it. -/
import Derived.Test.YtiogfdkdhfmamaaGreatDoorRb02
import Derived.Test.YtiogfdkdhfmamaaGreatDoorRb00
import Derived.Deep.RegionHeld3
import Derived.Deep.WholeRow
import Derived.Laws.CopyOwn
namespace Go.Proofs.YtiogfdkdhfmamaaGreatDoor
open Go.RowKit
namespace Vl
def T3 (a b c : Int) : Prop := a ≤ 0 → b ≤ 0 → c ≤ 0 ∧ (c = 0 → a = 0 ∧ b = 0)
theorem T3.or {a b c a' b' c' : Int} (h : T3 a b c) (k : T3 a' b' c') : T3 (orI a a') (orI b b') (orI c c') := by
  unfold T3 at h k
  unfold T3 orI
  by_cases ea : a = 0 <;> by_cases eb : b = 0 <;> by_cases ec : c = 0
  all_goals (first | rw [if_pos ea] | rw [if_neg ea])
  all_goals (first | rw [if_pos eb] | rw [if_neg eb])
  all_goals (first | rw [if_pos ec] | rw [if_neg ec])
  all_goals (intro h1 h2; refine ⟨?_, fun e => ?_⟩ <;> omega)
theorem T3.of {α : Type} {c : α → α → Int} (anti : ∀ x y, c y x = - c x y) (tr : ∀ x y z, c x y ≤ 0 → c y z ≤ 0 → c x z ≤ 0) (x y z : α) : T3 (c x y) (c y z) (c x z) := by
  intro h1 h2
  have h3 := tr x y z h1 h2
  refine ⟨h3, fun e => ?_⟩
  have a1 := anti x z
  have a2 := anti x y
  have a3 := anti y z
  have t1 := tr y z x h2 (by omega)
  have t2 := tr z x y (by omega) h1
  omega
theorem cmpI_T3 (x y z : Int) : T3 (cmpI x y) (cmpI y z) (cmpI x z) := T3.of cmpI_anti (fun _ _ _ => cmpI_trans) x y z
theorem cmpS_T3 (x y z : ByteArray) : T3 (cmpS x y) (cmpS y z) (cmpS x z) := T3.of cmpS_anti (fun _ _ _ => cmpS_trans) x y z
/-- a rank first, then what goes only within a rank -/
theorem T3.rank {x y z p q r : Int} (h : x = y → y = z → T3 p q r) : T3 (orI (cmpI x y) p) (orI (cmpI y z) q) (orI (cmpI x z) r) := by
  unfold T3 at h
  unfold T3 orI cmpI
  grind
theorem orI_anti {a b a' b' : Int} (h : a' = -a) (k : b' = -b) : orI a' b' = - orI a b := by
  unfold orI; grind
theorem orI_zero {a b : Int} : orI a b = 0 ↔ a = 0 ∧ b = 0 := by unfold orI; grind
def rk (s : ByteArray) : Int := if numB s.data.toList = true then 0 else 1
theorem cmpP_or (a b : ByteArray) : cmpP a b = orI (cmpI (rk a) (rk b)) (if numB a.data.toList = true then numP a b else cmpS a b) := by
  unfold cmpP orI cmpI rk
  by_cases h1 : numB a.data.toList = true <;> by_cases h2 : numB b.data.toList = true <;> simp [h1, h2]
theorem numP_anti (a b : ByteArray) : numP b a = - numP a b := orI_anti (cmpI_anti _ _) (cmpS_anti _ _)
theorem cmpP_anti (a b : ByteArray) : cmpP b a = - cmpP a b := by
  have h1 := numP_anti a b
  have h2 := cmpS_anti a b
  unfold cmpP; grind
theorem numP_T3 (a b c : ByteArray) : T3 (numP a b) (numP b c) (numP a c) := T3.or (cmpI_T3 _ _ _) (cmpS_T3 _ _ _)
theorem cmpP_T3 (a b c : ByteArray) : T3 (cmpP a b) (cmpP b c) (cmpP a c) := by
  rw [cmpP_or a b, cmpP_or b c, cmpP_or a c]
  refine T3.rank fun e1 e2 => ?_
  unfold rk at e1 e2
  by_cases h1 : numB a.data.toList = true
  · have h2 : numB b.data.toList = true := by grind
    simp only [h1, h2, if_true]; exact numP_T3 a b c
  · have h2 : ¬ numB b.data.toList = true := by grind
    simp only [if_neg h1, if_neg h2]; exact cmpS_T3 a b c
theorem cmpPs_anti : ∀ x y : List ByteArray, cmpPs y x = - cmpPs x y
  | [], [] => rfl
  | [], _ :: _ => rfl
  | _ :: _, [] => rfl
  | x :: xs, y :: ys => by simp only [cmpPs]; exact orI_anti (cmpP_anti _ _) (cmpPs_anti xs ys)
theorem cmpPs_T3 : ∀ x y z : List ByteArray, T3 (cmpPs x y) (cmpPs y z) (cmpPs x z)
  | [], [], [] => by simp [cmpPs, T3]
  | [], [], _ :: _ => by simp [cmpPs, T3]
  | [], _ :: _, [] => by simp [cmpPs, T3]
  | [], _ :: _, _ :: _ => by simp [cmpPs, T3]
  | _ :: _, [], _ => by simp [cmpPs, T3]
  | _ :: _, _ :: _, [] => by simp [cmpPs, T3]
  | x :: xs, y :: ys, z :: zs => by simp only [cmpPs]; exact T3.or (cmpP_T3 x y z) (cmpPs_T3 xs ys zs)
def rkE (l : List ByteArray) : Int := if l = [] then 1 else 0
def preV (p q : List ByteArray) : Int := orI (cmpI (rkE p) (rkE q)) (cmpPs p q)
theorem cmpVer_or (x y : Ver) : cmpVer x y = orI (cmpI x.ma y.ma) (orI (cmpI x.mi y.mi) (orI (cmpI x.pa y.pa) (preV x.pre y.pre))) := by
  unfold cmpVer preV rkE
  by_cases h1 : x.pre = []
  · by_cases h2 : y.pre = []
    · simp only [h1, h2, if_true, cmpPs, cmpI_self]; unfold orI; grind
    · simp only [h1, if_true, if_neg h2]; unfold orI cmpI; grind
  · by_cases h2 : y.pre = []
    · simp only [h2, if_true, if_neg h1]; unfold orI cmpI; grind
    · simp only [if_neg h1, if_neg h2, cmpI_self]; unfold orI; grind
theorem cmpVer_anti (x y : Ver) : cmpVer y x = - cmpVer x y := by
  rw [cmpVer_or, cmpVer_or]
  exact orI_anti (cmpI_anti _ _) (orI_anti (cmpI_anti _ _) (orI_anti (cmpI_anti _ _) (orI_anti (cmpI_anti _ _) (cmpPs_anti _ _))))
theorem cmpVer_T3 (x y z : Ver) : T3 (cmpVer x y) (cmpVer y z) (cmpVer x z) := by
  rw [cmpVer_or x y, cmpVer_or y z, cmpVer_or x z]
  exact T3.or (cmpI_T3 _ _ _) (T3.or (cmpI_T3 _ _ _) (T3.or (cmpI_T3 _ _ _) (T3.or (cmpI_T3 _ _ _) (cmpPs_T3 _ _ _))))
theorem whole_trim {l : List UInt8} (h : wholeB l = true) : l = [48] ∧ trimZ l = [] ∨ trimZ l = l ∧ l ≠ [] := by
  cases l with
  | nil => simp [wholeB] at h
  | cons c l =>
    by_cases hc : (c.toNat : Int) = 48
    · left
      have hc' : c = 48 := UInt8.toNat_inj.1 (by simpa using (by omega : c.toNat = 48))
      subst hc'
      cases l with
      | nil => exact ⟨rfl, rfl⟩
      | cons d l => simp [wholeB, zeroAt] at h
    · right; simp [trimZ, hc]
theorem cmpP_zero {a b : ByteArray} (ha : preOk a = true) (hb : preOk b = true) (h : cmpP a b = 0) : a = b := by
  unfold preOk at ha hb
  have na : numB a.data.toList = true → wholeB a.data.toList = true := fun h => by
    unfold numB at h; grind
  have nb : numB b.data.toList = true → wholeB b.data.toList = true := fun h => by
    unfold numB at h; grind
  unfold cmpP at h
  by_cases h1 : numB a.data.toList = true
  · rw [if_pos h1] at h
    by_cases h2 : numB b.data.toList = true
    · rw [if_pos h2] at h
      obtain ⟨_, h4⟩ := orI_zero.1 h
      have ht : trimZ a.data.toList = trimZ b.data.toList := by
        have := cmpS_zero h4
        rw [← trimA_list, ← trimA_list, this]
      apply bytes_ext
      rcases whole_trim (na h1) with ⟨e1, e2⟩ | ⟨e1, e2⟩ <;> rcases whole_trim (nb h2) with ⟨f1, f2⟩ | ⟨f1, f2⟩
      · rw [e1, f1]
      · rw [e2, f1] at ht; exact (f2 ht.symm).elim
      · rw [e1, f2] at ht; exact (e2 ht).elim
      · rw [e1, f1] at ht; exact ht
    · rw [if_neg h2] at h; omega
  · rw [if_neg h1] at h
    by_cases h2 : numB b.data.toList = true
    · rw [if_pos h2] at h; omega
    · rw [if_neg h2] at h; exact cmpS_zero h
theorem cmpPs_zero : ∀ {x y : List ByteArray}, (∀ s ∈ x, preOk s = true) → (∀ s ∈ y, preOk s = true) → cmpPs x y = 0 → x = y
  | [], [], _, _, _ => rfl
  | [], _ :: _, _, _, h => by simp [cmpPs] at h
  | _ :: _, [], _, _, h => by simp [cmpPs] at h
  | x :: xs, y :: ys, h1, h2, h => by
    simp only [cmpPs] at h
    obtain ⟨h3, h4⟩ := orI_zero.1 h
    rw [cmpP_zero (h1 x (by simp)) (h2 y (by simp)) h3, cmpPs_zero (fun s hs => h1 s (by simp [hs])) (fun s hs => h2 s (by simp [hs])) h4]
theorem chk_pre {x : Ver} (h : chkVer x = 0) : ∀ s ∈ x.pre, preOk s = true := by
  unfold chkVer at h
  have : x.pre.all preOk = true := by grind
  simpa using this
theorem cmpVer_zero {x y : Ver} (hx : chkVer x = 0) (hy : chkVer y = 0) : decide (cmpVer x y = 0) = sameVer x y := by
  rw [Bool.eq_iff_iff, decide_eq_true_iff]
  constructor
  · intro h
    rw [cmpVer_or] at h
    obtain ⟨h1, h⟩ := orI_zero.1 h
    obtain ⟨h2, h⟩ := orI_zero.1 h
    obtain ⟨h3, h⟩ := orI_zero.1 h
    obtain ⟨_, h⟩ := orI_zero.1 h
    unfold sameVer
    simp only [cmpI_zero h1, cmpI_zero h2, cmpI_zero h3, cmpPs_zero (chk_pre hx) (chk_pre hy) h, decide_true]; rfl
  · intro h
    unfold sameVer at h
    simp only [Bool.and_eq_true, decide_eq_true_iff] at h
    obtain ⟨⟨⟨h1, h2⟩, h3⟩, h4⟩ := h
    have e : x = y := by cases x; cases y; simp_all
    subst e
    have := cmpVer_anti x x
    omega
end Vl
end Go.Proofs.YtiogfdkdhfmamaaGreatDoor
namespace Go.Proofs.YtiogfdkdhfmamaaGreatDoor
open Vl (cmpVer_anti cmpVer_T3 cmpVer_zero)
namespace Rg
structure Ct where
  v : Ver
  af : Bool
def cmpC (a b : Ct) : Int := if cmpVer a.v b.v ≠ 0 then cmpVer a.v b.v else if a.af = b.af then 0 else if b.af = true then -1 else 1
def okC (c : Ct) : Prop := chkVer c.v = 0
theorem cmpC_cases (a b : Ct) : (cmpVer a.v b.v ≠ 0 ∧ cmpC a b = cmpVer a.v b.v) ∨ (cmpVer a.v b.v = 0 ∧ cmpC a b = if a.af = b.af then 0 else if b.af = true then -1 else 1) := by
  unfold cmpC
  by_cases h : cmpVer a.v b.v ≠ 0
  · rw [if_pos h]; exact .inl ⟨h, rfl⟩
  · rw [if_neg h]; exact .inr ⟨Classical.not_not.1 h, rfl⟩
theorem linC : Lin cmpC okC where
  self a := by
    have h := cmpVer_anti a.v a.v
    rcases cmpC_cases a a with ⟨h1, _⟩ | ⟨_, h2⟩
    · omega
    · rw [h2, if_pos rfl]
  anti a b := by
    have h := cmpVer_anti a.v b.v
    rcases cmpC_cases a b with ⟨h1, h2⟩ | ⟨h1, h2⟩ <;> rcases cmpC_cases b a with ⟨h3, h4⟩ | ⟨h3, h4⟩
    · rw [h2, h4, h]
    · omega
    · omega
    · rw [h2, h4]
      cases a.af <;> cases b.af <;> simp
  trans a b c h1 h2 := by
    have t := cmpVer_T3 a.v b.v c.v
    have p1 : cmpVer a.v b.v ≤ 0 := by rcases cmpC_cases a b with ⟨_, e⟩ | ⟨e, _⟩ <;> omega
    have p2 : cmpVer b.v c.v ≤ 0 := by rcases cmpC_cases b c with ⟨_, e⟩ | ⟨e, _⟩ <;> omega
    obtain ⟨p3, p4⟩ := t p1 p2
    rcases cmpC_cases a c with ⟨_, e⟩ | ⟨e, e2⟩
    · omega
    · obtain ⟨q1, q2⟩ := p4 e
      rcases cmpC_cases a b with ⟨f, _⟩ | ⟨_, f⟩
      · exact absurd q1 f
      rcases cmpC_cases b c with ⟨g, _⟩ | ⟨_, g⟩
      · exact absurd q2 g
      rw [f] at h1
      rw [g] at h2
      rw [e2]
      clear f g t p1 p2 p3 p4 q1 q2 e e2
      revert h1 h2
      cases a.af <;> cases b.af <;> cases c.af <;> simp
  zero a b ha hb h := by
    rcases cmpC_cases a b with ⟨h1, h2⟩ | ⟨h1, h2⟩
    · omega
    · have h3 := cmpVer_zero ha hb
      rw [h1] at h3
      have h4 : sameVer a.v b.v = true := by rw [← h3]; simp
      unfold sameVer at h4
      simp only [Bool.and_eq_true, decide_eq_true_iff] at h4
      obtain ⟨⟨⟨e1, e2⟩, e3⟩, e4⟩ := h4
      have h5 : a.af = b.af := by
        rw [h2] at h
        by_cases h6 : a.af = b.af
        · exact h6
        · rw [if_neg h6] at h
          split at h <;> omega
      obtain ⟨⟨ma, mi, pa, pre⟩, af⟩ := a
      obtain ⟨⟨ma', mi', pa', pre'⟩, af'⟩ := b
      simp_all
/-- a stretch as it is given -/
structure RS where
  fr : Ct
  to : Ct
  en : Bool
def zeroC : Ct := ⟨⟨0, 0, 0, []⟩, false⟩
def isZ (c : Ct) : Bool := decide (c.v.ma = 0) && decide (c.v.mi = 0) && decide (c.v.pa = 0) && decide (c.v.pre = []) && !c.af
theorem isZ_is {c : Ct} (h : isZ c = true) : c = zeroC := by
  unfold isZ at h
  simp only [Bool.and_eq_true, decide_eq_true_eq] at h
  obtain ⟨⟨⟨⟨h1, h2⟩, h3⟩, h4⟩, h5⟩ := h
  obtain ⟨⟨ma, mi, pa, pre⟩, af⟩ := c
  simp only at h1 h2 h3 h4 h5
  have h6 : af = false := by simpa using h5
  rw [h1, h2, h3, h4, h6]; rfl
def toS (s : RS) : Str Ct := ⟨s.fr, if s.en = true then none else some s.to⟩
def ofS (s : Str Ct) : RS := ⟨s.fr, s.to.getD zeroC, s.to.isNone⟩
theorem to_of (s : Str Ct) : toS (ofS s) = s := by
  obtain ⟨fr, to⟩ := s
  cases to <;> rfl
theorem of_to {s : RS} (h : s.en = true → s.to = zeroC) : ofS (toS s) = s := by
  obtain ⟨fr, to, en⟩ := s
  cases en
  · rfl
  · have := h rfl
    simp only at this
    subst this
    rfl
/-- what is wrong with a stretch behind another one -/
def chkT (p : Option RS) (s : RS) : Int :=
  if chkVer s.fr.v ≠ 0 then chkVer s.fr.v else if s.en = true ∧ isZ s.to = false then 3 else if s.en = false ∧ chkVer s.to.v ≠ 0 then chkVer s.to.v else if s.en = false ∧ 0 ≤ cmpC s.fr s.to then 8 else
  match p with
  | none => 0
  | some q => if q.en = true ∨ 0 ≤ cmpC q.to s.fr then 8 else 0
def chkFrom : Option RS → List RS → Int
  | _, [] => 0
  | p, s :: r => if chkT p s ≠ 0 then chkT p s else chkFrom (some s) r
def chkR (l : List RS) : Int := if 100 < l.length then 2 else chkFrom none l
theorem chkFrom_step (p : Option RS) {l : List RS} {k : Nat} {s : RS} (h : l[k]? = some s) : chkFrom p (l.drop k) = if chkT p s ≠ 0 then chkT p s else chkFrom (some s) (l.drop (k + 1)) := by
  obtain ⟨hk, rfl⟩ := List.getElem?_eq_some_iff.1 h
  rw [List.drop_eq_getElem_cons hk]; rfl
theorem chkT_ok {p : Option RS} {s : RS} (h : chkT p s = 0) : okC s.fr ∧ (s.en = true → s.to = zeroC) ∧ (s.en = false → okC s.to ∧ cmpC s.fr s.to < 0) ∧ ∀ q, p = some q → q.en = false ∧ cmpC q.to s.fr < 0 := by
  unfold chkT at h
  by_cases h1 : chkVer s.fr.v ≠ 0
  · rw [if_pos h1] at h; exact absurd h h1
  rw [if_neg h1] at h
  by_cases h2 : s.en = true ∧ isZ s.to = false
  · rw [if_pos h2] at h; cases h
  rw [if_neg h2] at h
  by_cases h3 : s.en = false ∧ chkVer s.to.v ≠ 0
  · rw [if_pos h3] at h; exact absurd h h3.2
  rw [if_neg h3] at h
  by_cases h4 : s.en = false ∧ 0 ≤ cmpC s.fr s.to
  · rw [if_pos h4] at h; cases h
  rw [if_neg h4] at h
  refine ⟨Classical.not_not.1 h1, fun he => ?_, fun he => ⟨?_, ?_⟩, fun q hq => ?_⟩
  · refine isZ_is ?_
    cases hz : isZ s.to
    · exact absurd ⟨he, hz⟩ h2
    · rfl
  · exact Classical.not_not.1 fun h9 => h3 ⟨he, h9⟩
  · exact Classical.byContradiction fun h9 => h4 ⟨he, by omega⟩
  · subst hq
    simp only at h
    by_cases h5 : q.en = true ∨ 0 ≤ cmpC q.to s.fr
    · rw [if_pos h5] at h; cases h
    · refine ⟨?_, ?_⟩
      · cases hz : q.en
        · rfl
        · exact absurd (.inl hz) h5
      · exact Classical.byContradiction fun h9 => h5 (.inr (by omega))
theorem chkFrom_ok : ∀ {l : List RS} {p : Option RS}, chkFrom p l = 0 → Valid cmpC (l.map toS) ∧ (∀ s ∈ l, okC s.fr ∧ (s.en = true → s.to = zeroC) ∧ (s.en = false → okC s.to)) ∧ ∀ q s, p = some q → l.head? = some s → q.en = false ∧ cmpC q.to s.fr < 0
  | [], p, _ => ⟨trivial, (fun s hs => by cases hs), (fun q s _ h => by cases h)⟩
  | s :: r, p, h => by
    have h0 : chkT p s = 0 ∧ chkFrom (some s) r = 0 := by
      unfold chkFrom at h
      by_cases h1 : chkT p s ≠ 0
      · rw [if_pos h1] at h; exact absurd h h1
      · rw [if_neg h1] at h; exact ⟨Classical.not_not.1 h1, h⟩
    obtain ⟨a1, a2, a3, a4⟩ := chkT_ok h0.1
    obtain ⟨b1, b2, b3⟩ := chkFrom_ok h0.2
    refine ⟨⟨fun t ht => ?_, fun s' hs' => ?_, b1⟩, fun q hq => ?_, fun q s' hp hs' => ?_⟩
    · unfold toS at ht ⊢
      cases he : s.en
      · rw [he] at ht
        have ht' : s.to = t := by simpa using ht
        rw [← ht']
        exact (a3 he).2
      · rw [he] at ht; cases ht
    · cases r with
      | nil => cases hs'
      | cons s2 r2 =>
        have e2 : s' = toS s2 := by simpa using hs'.symm
        subst e2
        obtain ⟨c1, c2⟩ := b3 s s2 rfl rfl
        exact ⟨s.to, by unfold toS; rw [c1]; rfl, c2⟩
    · rcases List.mem_cons.1 hq with rfl | hq
      · exact ⟨a1, a2, fun he => (a3 he).1⟩
      · exact b2 q hq
    · have e2 : s = s' := by simpa using hs'
      subst e2
      exact a4 q hp
theorem mem_cutsS {c : Ct} {s : RS} (h : c ∈ cutsS (toS s)) : c = s.fr ∨ (s.en = false ∧ c = s.to) := by
  unfold cutsS toS at h
  rcases List.mem_cons.1 h with rfl | h
  · exact .inl rfl
  · cases he : s.en
    · rw [he] at h
      exact .inr ⟨rfl, by simpa using h⟩
    · rw [he] at h; simp at h
theorem chkR_ok {l : List RS} (h : chkR l = 0) : l.length ≤ 100 ∧ Valid cmpC (l.map toS) ∧ (∀ c ∈ cutsL (l.map toS), okC c) ∧ ∀ s ∈ l, s.en = true → s.to = zeroC := by
  unfold chkR at h
  by_cases h1 : 100 < l.length
  · rw [if_pos h1] at h; cases h
  · rw [if_neg h1] at h
    obtain ⟨a1, a2, _⟩ := chkFrom_ok h
    refine ⟨by omega, a1, fun c hc => ?_, fun s hs => (a2 s hs).2.1⟩
    obtain ⟨s', h2, h3⟩ := List.mem_flatMap.1 hc
    obtain ⟨s, h4, rfl⟩ := List.mem_map.1 h2
    rcases mem_cutsS h3 with rfl | ⟨he, rfl⟩
    · exact (a2 s h4).1
    · exact (a2 s h4).2.2 he
/-- what two ranges are, put together: R, or nothing where it is too long -/
structure TogR (f : Bool → Bool → Bool) (a b R : List RS) : Prop where
  valid : Valid cmpC (R.map toS)
  ok : ∀ c ∈ cutsL (R.map toS), okC c
  zero : ∀ s ∈ R, s.en = true → s.to = zeroC
  cov : ∀ x, cov cmpC (R.map toS) x = f (Rg.cov cmpC (a.map toS) x) (Rg.cov cmpC (b.map toS) x)
theorem map_toS {R R' : List RS} (h : R.map toS = R'.map toS) (z : ∀ s ∈ R, s.en = true → s.to = zeroC) (z' : ∀ s ∈ R', s.en = true → s.to = zeroC) : R = R' := by
  have h1 : R.map (ofS ∘ toS) = R'.map (ofS ∘ toS) := by rw [← List.map_map, ← List.map_map, h]
  have e : ∀ {l : List RS}, (∀ s ∈ l, s.en = true → s.to = zeroC) → l.map (ofS ∘ toS) = l := fun {l} hz => by
    conv => rhs; rw [← List.map_id l]
    exact List.map_congr_left fun s hs => of_to (hz s hs)
  rwa [e z, e z'] at h1
theorem TogR.unique {f : Bool → Bool → Bool} {a b R R' : List RS} (h : TogR f a b R) (h' : TogR f a b R') : R = R' :=
  map_toS (valid_unique linC h.valid h'.valid h.ok h'.ok fun x _ => by rw [h.cov, h'.cov]) h.zero h'.zero
/-- off the cuts in order -/
theorem togR_of {f : Bool → Bool → Bool} (hf : f false false = false) {a b : List RS} (a2 : ∀ c ∈ cutsL (a.map toS), okC c) (b2 : ∀ c ∈ cutsL (b.map toS), okC c) {C : List Ct} (hs : C.Pairwise (fun p q => cmpC p q ≤ 0)) (hC : ∀ c, c ∈ C ↔ c ∈ cutsL (a.map toS) ∨ c ∈ cutsL (b.map toS)) :
    TogR f a b ((comb (fun c => f (cov cmpC (a.map toS) c) (cov cmpC (b.map toS) c)) C).1.map ofS) := by
  have hok : ∀ c ∈ C, okC c := fun c hc => ((hC c).1 hc).elim (a2 c) (b2 c)
  obtain ⟨h1, h2, h3⟩ := comb_valid linC hf hs hok (fun c hc => (hC c).2 (.inl hc)) (fun c hc => (hC c).2 (.inr hc)) (a := a.map toS) (b := b.map toS)
  have e : ∀ l : List (Str Ct), (l.map ofS).map toS = l := fun l => by
    rw [List.map_map]
    conv => rhs; rw [← List.map_id l]
    exact List.map_congr_left fun s _ => to_of s
  refine ⟨by rw [e]; exact h1, fun c hc => ?_, fun s hs he => ?_, fun x => by rw [e]; exact h3 x⟩
  · rw [e] at hc
    exact hok c (h2 c hc)
  · obtain ⟨q, _, rfl⟩ := List.mem_map.1 hs
    unfold ofS at he ⊢
    cases ht : q.to with
    | none => rfl
    | some t => rw [ht] at he; cases he
end Rg
end Go.Proofs.YtiogfdkdhfmamaaGreatDoor
namespace Go.Proofs.YtiogfdkdhfmamaaGreatDoor
open Go.RowKit
theorem ext_alloc (w : World) (o : Obj) : Below w.heap.size w (w.alloc o) := (Below.refl _ _).alloc (Nat.le_refl _) _
/-- A block that may be written. -/
def Fre (W : World) (b : Nat) : Prop := ∀ j, W.frozen? ⟨b, j, none⟩ = false
theorem Fre.ext {W W' : World} {b : Nat} {A : Array Value} (h : Fre W b) (hA : Box W b A) (hb : Below W.heap.size W W') : Fre W' b :=
  fun j => (hb.frozen (p := ⟨b, j, none⟩) hA.1).trans (h j)
theorem Fre.new (w : World) (A : Array Value) (t : TypeId) : Fre (w.alloc (.cells A t)) w.heap.size := fun j => by simp
/-- held: below B the world is W's, and two blocks read as they did -/
abbrev S2R (W : World) (B : Nat) (b1 : Nat) (A1 : Array Value) (b2 : Nat) (A2 : Array Value) (w' : World) : Prop :=
  Below B W w' ∧ (∀ j, w'.cell? ⟨b1, j, none⟩ = A1[j]?) ∧ (∀ j, w'.cell? ⟨b2, j, none⟩ = A2[j]?)
theorem S2R.start {W : World} {B b1 : Nat} {A1 : Array Value} {b2 : Nat} {A2 : Array Value} (h1 : Box W b1 A1) (h2 : Box W b2 A2) : S2R W B b1 A1 b2 A2 W.drew :=
  ⟨(Below.refl _ _).drew, h1.2, h2.2⟩
theorem S2R.ext {W w1 w2 : World} {B b1 : Nat} {A1 : Array Value} {b2 : Nat} {A2 : Array Value} (hb : Below w1.heap.size w1 w2) (h : S2R W B b1 A1 b2 A2 w1) (hB : B ≤ W.heap.size) (h1 : Box W b1 A1) (h2 : Box W b2 A2) : S2R W B b1 A1 b2 A2 w2 :=
  ⟨h.1.trans (hb.mono (Nat.le_trans hB h.1.size)), fun j => (hb.cell (p := ⟨b1, j, none⟩) (Nat.lt_of_lt_of_le h1.1 h.1.size)).trans (h.2.1 j), fun j => (hb.cell (p := ⟨b2, j, none⟩) (Nat.lt_of_lt_of_le h2.1 h.1.size)).trans (h.2.2 j)⟩
theorem S2R.set {W w1 : World} {B b1 : Nat} {A1 : Array Value} {b2 : Nat} {A2 : Array Value} {p : Addr} {v : Value} (h : S2R W B b1 A1 b2 A2 w1) (hp : B ≤ p.block) (h1 : b1 < B) (h2 : b2 < B) : S2R W B b1 A1 b2 A2 (w1.setCell p v) := by
  have hb : Below B w1 (w1.setCell p v) := (Below.refl _ _).setCell hp v
  exact ⟨h.1.trans hb, fun j => (hb.cell (p := ⟨b1, j, none⟩) h1).trans (h.2.1 j), fun j => (hb.cell (p := ⟨b2, j, none⟩) h2).trans (h.2.2 j)⟩

/-- The cells of a list of structs of sz cells each. -/
theorem flat_get {α : Type} {f : α → List Value} {sz : Nat} (hs : ∀ x, (f x).length = sz) : ∀ (l : List α) (k : Nat) (x : α), l[k]? = some x → ∀ j u, (f x)[j]? = some u → (l.flatMap f)[k * sz + j]? = some u
  | [], _, _, h, _, _, _ => by simp at h
  | y :: l, 0, x, h, j, u, hu => by
    obtain rfl : y = x := by simpa using h
    rw [List.flatMap_cons, Nat.zero_mul, Nat.zero_add, List.getElem?_append_left (List.getElem?_eq_some_iff.1 hu).1]; exact hu
  | y :: l, k + 1, x, h, j, u, hu => by
    have ih := flat_get hs l k x (by simpa using h) j u hu
    have e : (k + 1) * sz + j = (f y).length + (k * sz + j) := by rw [hs, Nat.add_mul]; omega
    rw [List.flatMap_cons, e, List.getElem?_append_right (by omega), ← ih]
    congr 1; omega
theorem flat_length {α : Type} {f : α → List Value} {sz : Nat} (hs : ∀ x, (f x).length = sz) (l : List α) : (l.flatMap f).length = l.length * sz := by
  induction l with
  | nil => simp
  | cons y l ih => rw [List.flatMap_cons, List.length_append, hs, ih, List.length_cons, Nat.add_mul]; omega
/-- An element of a slice of structs: where it lies, and its cells. -/
theorem Sl.elem {w : World} {a : Option Addr} {n c k : Nat} {α : Type} {f : α → List Value} {sz : Nat} {l : List α} {x : α} (s : Sl w (.slice a n c) n (l.flatMap f)) (hs : ∀ x, (f x).length = sz) (hsz : 0 < sz) (hx : l[k]? = some x) :
    ∃ b o, a = some ⟨b, o, none⟩ ∧ ∀ j u, (f x)[j]? = some u → w.cell? ⟨b, o + k * sz + j, none⟩ = some u := by
  obtain ⟨a', cap, hv, _, _, _, h3⟩ := s
  obtain ⟨rfl, _, _⟩ : a = a' ∧ True ∧ True := by cases hv; exact ⟨rfl, trivial, trivial⟩
  have h0 : 0 < (f x).length := by rw [hs]; exact hsz
  obtain ⟨b, o, rfl, _⟩ := h3 _ _ (flat_get hs l k x hx 0 _ (List.getElem?_eq_getElem h0))
  refine ⟨b, o, rfl, fun j u hu => ?_⟩
  obtain ⟨b', o', hb, hc⟩ := h3 _ _ (flat_get hs l k x hx j u hu)
  cases hb
  rw [Nat.add_assoc]; exact hc

/-- What the call owns stays owned where nothing that is there turns. -/
theorem ownsRow_ext {w w' : World} {base e size n : Nat} {v : Value} {xs : List Value} (h : w.ownsRow base e size v n xs) (hb : Below w.heap.size w w') : w'.ownsRow base e size v n xs := by
  obtain ⟨h1, h2⟩ := h
  refine ⟨h1, ?_⟩
  rcases h2 with h2 | ⟨g, cap, cur, hv, hbg, hg, h3⟩
  · exact .inl h2
  · refine .inr ⟨g, cap, cur, hv, hbg, ?_, h3⟩
    rw [hb.block g (Array.getElem?_eq_some_iff.1 hg).1]; exact hg
/-- A slice over a new block. -/
theorem Sl.new (w : World) (A : Array Value) (t : TypeId) (n cap : Nat) (h : n ≤ cap) (hm : cap ≤ maxLen) : Sl (w.alloc (.cells A t)) (.slice (some ⟨w.heap.size, 0, none⟩) n cap) n A.toList :=
  ⟨_, _, rfl, h, hm, (fun h => by cases h), fun i x hx => ⟨_, _, rfl, by simpa using hx⟩⟩

theorem S2R.grown {W w1 w2 : World} {B b1 : Nat} {A1 : Array Value} {b2 : Nat} {A2 : Array Value} {row : Option Nat} (hg : w1.grownBy w2 row) (h : S2R W B b1 A1 b2 A2 w1) (hB : B ≤ W.heap.size) (h1 : Box W b1 A1) (h2 : Box W b2 A2)
    (hr : ∀ k, row = some k → B ≤ k ∧ k ≠ b1 ∧ k ≠ b2) : S2R W B b1 A1 b2 A2 w2 := by
  have l1 := Nat.lt_of_lt_of_le h1.1 h.1.size
  have l2 := Nat.lt_of_lt_of_le h2.1 h.1.size
  refine ⟨h.1.grown hg (Nat.le_trans hB h.1.size) (fun k e => (hr k e).1), fun j => ?_, fun j => ?_⟩
  · rw [World.cell?_of_block (w := w1) (hg.block b1 l1 (fun e => (hr b1 e.symm).2.1 rfl))]; exact h.2.1 j
  · rw [World.cell?_of_block (w := w1) (hg.block b2 l2 (fun e => (hr b2 e.symm).2.2 rfl))]; exact h.2.2 j
end Go.Proofs.YtiogfdkdhfmamaaGreatDoor
namespace Go.Proofs.YtiogfdkdhfmamaaGreatDoor
open Go.RowKit
namespace Nt
/-- the block b is a row of cells A -/
def RH (w : World) (b : Nat) (A : Array Value) (t : TypeId) : Prop := w.heap[b]? = some (.cells A t (0, 0))
theorem RH.lt {w : World} {b : Nat} {A : Array Value} {t : TypeId} (h : RH w b A t) : b < w.heap.size := (Array.getElem?_eq_some_iff.1 h).1
theorem RH.ext {w w' : World} {b : Nat} {A : Array Value} {t : TypeId} (h : RH w b A t) (hb : Below w.heap.size w w') : RH w' b A t := by
  unfold RH; rw [hb.block b h.lt]; exact h
theorem RH.cell {w : World} {b : Nat} {A : Array Value} {t : TypeId} (h : RH w b A t) (j : Nat) : w.cell? ⟨b, j, none⟩ = A[j]? := cell_of_row w b j A t _ h
theorem RH.fre {w : World} {b : Nat} {A : Array Value} {t : TypeId} (h : RH w b A t) (j : Nat) : w.frozen? ⟨b, j, none⟩ = false := by
  unfold RH at h
  simp [World.frozen?, h]
theorem RH.new (w : World) (A : Array Value) (t : TypeId) : RH (w.alloc (.cells A t)) w.heap.size A t := heap_alloc_last w _
theorem RH.row {w : World} {b : Nat} {A : Array Value} {t : TypeId} (h : RH w b A t) (A' : Array Value) : RH (w.setRow b A') b A' t := setRow_heap w b A A' t _ h
theorem RH.set {w : World} {b : Nat} {A : Array Value} {t : TypeId} (h : RH w b A t) (j : Nat) (v : Value) : RH (w.setCell ⟨b, j, none⟩ v) b (A.setIfInBounds j v) t := by
  rw [setCell_eq_setRow w b j A t _ v h]; exact h.row _
theorem RH.set_other {w : World} {b : Nat} {A : Array Value} {t : TypeId} (h : RH w b A t) {p : Addr} (hne : b ≠ p.block) (v : Value) : RH (w.setCell p v) b A t := by
  unfold RH World.setCell
  simp only [Array.getElem?_modify]
  rw [if_neg (fun e => hne e.symm)]; exact h
theorem RH.other {w : World} {b : Nat} {A : Array Value} {t : TypeId} (h : RH w b A t) {p : Addr} (hne : b ≠ p.block) (v : Value) : RH (w.setCell p v) b A t := h.set_other hne v
theorem store_cells {P : Program} {w : World} {g : Nat} {t ty : TypeId} {old A : Array Value} (hg : RH w g old t) (hi : (P.info? ty).map (·.size) = some A.size) (ho : old.size = A.size) (h1 : A.all (·.oneCell') = true) :
    (storeCells ⟨g, 0, none⟩ A.toList 0).run P w = .ok () (w.setRow g A) := by
  have := run_storeVar_row (P := P) w g t ty old A hg hi ho h1
  cases hq : P.info? ty with
  | none => simp [hq] at hi
  | some i =>
    have hs : A.size = i.size := by simp [hq] at hi; omega
    simpa [storeVar, sizeOf, typeInfo, hq, Value.cells, hs] using this
theorem RH.box {w : World} {b : Nat} {A : Array Value} {t : TypeId} (h : RH w b A t) : Box w b A := ⟨h.lt, fun j => h.cell j⟩
/-- laws of walks: a result's row is known whole -/
theorem wp_row1 {P : Program} {c : Code} {Q : Exit → Act → World → Prop} {a : Act} {w : World} {A : Array Value} {t : TypeId}
    (h : ∀ W, Below w.heap.size w W → RH W w.heap.size A t → c.wp P Q a W) : c.wp P Q a (w.alloc (.cells A t)) := h _ (ext_alloc _ _) (RH.new _ _ _)
def _root_.Go.TypeDesc.isStruct : TypeDesc → Bool
  | .struct _ => true
  | _ => false
end Nt
open Nt (RH RH.cell RH.other)
theorem zs4 {w : World} {b : Nat} {t : TypeId} {a0 a1 a2 a3 : Value} (h : RH w b #[a0, a1, a2, a3] t) : w.cell? ⟨b, 0, none⟩ = some a0 ∧ w.cell? ⟨b, 1, none⟩ = some a1 ∧ w.cell? ⟨b, 2, none⟩ = some a2 ∧ w.cell? ⟨b, 3, none⟩ = some a3 := ⟨(h.cell 0).trans rfl, (h.cell 1).trans rfl, (h.cell 2).trans rfl, (h.cell 3).trans rfl⟩
end Go.Proofs.YtiogfdkdhfmamaaGreatDoor
