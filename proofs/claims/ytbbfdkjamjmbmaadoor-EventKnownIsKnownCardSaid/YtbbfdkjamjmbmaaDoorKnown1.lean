/- What event.known reckons is what the reference's knownOf reckons: plain. -/
import Derived.Test.YtbbfdkjamjmbmaaDoorKnown
namespace Go.Proofs.YtbbfdkjamjmbmaaDoor
open Go.RowKit
def wholeTo (l : List Ev) : Nat → Bool
  | 0 => true
  | k + 1 => match l[k]? with
    | some e => (if newAt l k then true else wholeTo l k) && decide (e.number = nextAt l k)
    | none => wholeTo l k
def byTo (l : List Ev) (s : ByteArray) : Nat → Int
  | 0 => 0
  | k + 1 => match l[k]? with
    | some e => if wholeTo l (k + 1) = true ∧ e.kind = 3 ∧ e.shard = s then mx (byTo l s k) e.time else byTo l s k
    | none => byTo l s k
structure Kst where
  out : Int
  n : Int
  st : Bool
def stepK (s : ByteArray) (q : Kst) (e : Ev) : Kst :=
  if q.st then q else if e.shard = s then (if e.number = q.n + 1 then ⟨if e.kind = 3 then mx q.out e.time else q.out, q.n + 1, false⟩ else { q with st := true }) else q
def refTo (l : List Ev) (s : ByteArray) : Nat → Kst
  | 0 => ⟨0, 0, false⟩
  | k + 1 => match l[k]? with
    | some e => stepK s (refTo l s k) e
    | none => refTo l s k
theorem refTo_step {l : List Ev} {k : Nat} {e : Ev} (s : ByteArray) (h : l[k]? = some e) : refTo l s (k + 1) = stepK s (refTo l s k) e := by simp only [refTo, h]
theorem kOf_refTo (l : List Ev) (s : ByteArray) : ∀ k, k ≤ l.length → kOf s 0 0 l = if (refTo l s k).st then (refTo l s k).out else kOf s (refTo l s k).out (refTo l s k).n (l.drop k)
  | 0, _ => by simp [refTo]
  | k + 1, h => by
    have ih := kOf_refTo l s k (by omega)
    have hg := List.getElem?_eq_getElem (show k < l.length by omega)
    generalize l[k] = e at hg
    rw [kOf_step s _ _ hg] at ih
    rw [refTo_step s hg, ih]
    unfold stepK
    by_cases h1 : (refTo l s k).st = true
    · simp [h1]
    · by_cases h2 : e.shard = s
      · by_cases h3 : e.number = (refTo l s k).n + 1
        · simp [h1, h2, h3]
        · simp [h1, h2, h3]
      · simp [h1, h2]
theorem kOf_end (l : List Ev) (s : ByteArray) : kOf s 0 0 l = (refTo l s l.length).out := by
  have := kOf_refTo l s l.length (Nat.le_refl _)
  rw [drop_nil l l.length (Nat.le_refl _)] at this
  rw [this]; simp [kOf]
/-- no event of the shard ahead: nothing is known of it -/
theorem refTo_fresh {l : List Ev} {s : ByteArray} : ∀ k, (∀ j e, j < k → l[j]? = some e → e.shard ≠ s) → refTo l s k = ⟨0, 0, false⟩
  | 0, _ => rfl
  | k + 1, h => by
    have ih := refTo_fresh k (fun j e hj he => h j e (by omega) he)
    cases hg : l[k]? with
    | none => simp only [refTo, hg]; exact ih
    | some e => rw [refTo_step s hg, ih]; simp [stepK, h k e (by omega) hg]
/-- neighbours are in order -/
theorem scan_next : ∀ (p : Option Ev) (l : List Ev), scanFrom p l = 0 → (∀ q e, p = some q → l[0]? = some e → ordE q e < 0) ∧ ∀ k q e, l[k]? = some q → l[k + 1]? = some e → ordE q e < 0
  | _, [], _ => ⟨fun _ _ _ h => by simp at h, fun _ _ _ h => by simp at h⟩
  | p, x :: l, h => by
    simp only [scanFrom] at h
    by_cases hx : checkE x = 0
    · rw [if_neg (by simp [hx])] at h
      have h' := ite8 _ _ h
      obtain ⟨i1, i2⟩ := scan_next (some x) l h'
      refine ⟨fun q e hp he => ?_, fun k q e hq he => ?_⟩
      · subst hp
        simp at he; subst he
        by_cases ho : 0 ≤ ordE q x
        · simp [ho] at h
        · omega
      · cases k with
        | zero => simp at hq he; subst hq; exact i1 x e rfl he
        | succ k => exact i2 k q e (by simpa using hq) (by simpa using he)
    · rw [if_pos hx] at h; omega
theorem ord_shard {a b : Ev} (h : ordE a b < 0) : cmpS a.shard b.shard ≤ 0 := by
  unfold ordE orI at h
  have := cmpS_tri a.shard b.shard
  split at h <;> omega
theorem sorted {l : List Ev} (h : scanFrom none l = 0) : ∀ (d i : Nat) (q e : Ev), l[i]? = some q → l[i + d]? = some e → cmpS q.shard e.shard ≤ 0
  | 0, i, q, e, hq, he => by simp at he; rw [hq] at he; cases he; rw [cmpS_self]; exact Int.le_refl _
  | d + 1, i, q, e, hq, he => by
    have hlt : i + d < l.length := by have := (List.getElem?_eq_some_iff.1 he).1; omega
    have hg := List.getElem?_eq_getElem hlt
    exact cmpS_trans (sorted h d i q _ hq hg) (ord_shard ((scan_next none l h).2 (i + d) _ e hg he))
/-- a shard that begins at k + 1 did not come ahead -/
theorem fresh {l : List Ev} (h : scanFrom none l = 0) {k : Nat} {p e : Ev} (hp : l[k]? = some p) (he : l[k + 1]? = some e) (hne : p.shard ≠ e.shard) : ∀ j q, j < k + 1 → l[j]? = some q → q.shard ≠ e.shard := by
  intro j q hj hq heq
  have h1 := sorted h (k - j) j q p hq (by rw [show j + (k - j) = k by omega]; exact hp)
  have h2 := sorted h 1 k p e hp he
  rw [heq] at h1
  rw [cmpS_anti] at h1
  exact hne (cmpS_zero (by omega))
/-- both go hand in hand -/
theorem hand {l : List Ev} (h : scanFrom none l = 0) (s : ByteArray) : ∀ k, k ≤ l.length → byTo l s k = (refTo l s k).out ∧ (∀ j p, k = j + 1 → l[j]? = some p → p.shard = s → wholeTo l k = !(refTo l s k).st ∧ ((refTo l s k).st = false → (refTo l s k).n = p.number))
  | 0, _ => ⟨rfl, fun _ _ h => by omega⟩
  | k + 1, hk => by
    obtain ⟨i1, i2⟩ := hand h s k (by omega)
    have hg := List.getElem?_eq_getElem (show k < l.length by omega)
    generalize l[k] = e at hg
    have hw : wholeTo l (k + 1) = ((if newAt l k then true else wholeTo l k) && decide (e.number = nextAt l k)) := by simp only [wholeTo, hg]
    have hb : byTo l s (k + 1) = if wholeTo l (k + 1) = true ∧ e.kind = 3 ∧ e.shard = s then mx (byTo l s k) e.time else byTo l s k := by simp only [byTo, hg]
    by_cases hs : e.shard = s
    · -- the state ahead of this event
      have key : (if newAt l k then true else wholeTo l k) = !(refTo l s k).st ∧ ((refTo l s k).st = false → nextAt l k = (refTo l s k).n + 1) := by
        cases k with
        | zero => simp [newAt, refTo, nextAt]
        | succ j =>
          have hgj := List.getElem?_eq_getElem (show j < l.length by omega)
          generalize l[j] = p at hgj
          have hnew : newAt l (j + 1) = decide (e.shard ≠ p.shard) := by rw [newAt, hg, hgj]; simp
          by_cases hq : p.shard = e.shard
          · obtain ⟨a1, a2⟩ := i2 j p rfl hgj (by rw [hq, hs])
            rw [hnew]
            refine ⟨by simp [hq, a1], fun h0 => ?_⟩
            simp only [nextAt, hgj, hg, if_pos hq, a2 h0]
          · have hf := fresh h hgj hg hq
            rw [hs] at hf
            rw [refTo_fresh (j + 1) hf, hnew]
            refine ⟨by simp [Ne.symm hq], fun _ => ?_⟩
            simp only [nextAt, hgj, hg, if_neg hq]; rfl
      obtain ⟨k1, k2⟩ := key
      rw [hb, hw, k1, refTo_step s hg, i1]
      unfold stepK
      cases hst : (refTo l s k).st
      · have k3 := k2 hst
        by_cases hn : e.number = (refTo l s k).n + 1
        · by_cases hk3 : e.kind = 3
          · refine ⟨by simp [k3, hn, hs, hk3], fun j p hj hp _ => ?_⟩
            obtain rfl : j = k := by omega
            rw [hg] at hp; cases hp
            simp [k3, hn, hs]
          · refine ⟨by simp [k3, hn, hs, hk3], fun j p hj hp _ => ?_⟩
            obtain rfl : j = k := by omega
            rw [hg] at hp; cases hp
            simp [k3, hn, hs]
        · refine ⟨by simp [k3, hn, hs], fun j p hj hp _ => ?_⟩
          simp [k3, hn, hs]
      · refine ⟨by simp, fun j p hj hp _ => ?_⟩
        simp [hst]
    · refine ⟨?_, fun j p hj hp hps => ?_⟩
      · rw [hb, refTo_step s hg, i1]
        simp [stepK, hs]
      · obtain rfl : j = k := by omega
        rw [hg] at hp; cases hp; exact absurd hps hs
theorem by_known {l : List Ev} (h : checkL l = 0) (s : ByteArray) : byTo l s l.length = kOf s 0 0 l := by
  rw [kOf_end, (hand (check_ok h).2.2 s l.length (Nat.le_refl _)).1]
end Go.Proofs.YtbbfdkjamjmbmaaDoor
