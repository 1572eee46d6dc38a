/- knownOf and known of the reference. What event.known reckons is what the reference's knownOf reckons: plain. known of package event. -/
import Derived.Test.YtacchooggifnhaaTw02
import Derived.Maps.OwnOps
import Derived.Maps.OwnSet
namespace Go.Proofs.Ytacchooggifnhaa
open Go.RowKit
def mx (a b : Int) : Int := if a < b then b else a
def mn (a b : Int) : Int := if b < a then b else a
/-- what is known of a shard, from what was ahead -/
def kOf (s : ByteArray) : Int → Int → List Ev → Int
  | out, _, [] => out
  | out, n, e :: r => if e.shard = s then (if e.number = n + 1 then kOf s (if e.kind = 3 then mx out e.time else out) (n + 1) r else out) else kOf s out n r
theorem kOf_step (s : ByteArray) (out n : Int) {l : List Ev} {k : Nat} {e : Ev} (h : l[k]? = some e) : kOf s out n (l.drop k) = if e.shard = s then (if e.number = n + 1 then kOf s (if e.kind = 3 then mx out e.time else out) (n + 1) (l.drop (k + 1)) else out) else kOf s out n (l.drop (k + 1)) := by
  obtain ⟨hk, rfl⟩ := List.getElem?_eq_some_iff.1 h
  rw [List.drop_eq_getElem_cons hk]; rfl
theorem ne_toList {a b : ByteArray} (h : a ≠ b) : (a.toList == b.toList) = false := by
  simp only [beq_eq_false_iff_ne, ne_eq, ByteArray.toList_eq]; exact fun e => h (bytes_ext e)

set_option maxRecDepth 100000 in
set_option maxHeartbeats 16000000 in
theorem ref7_knownOf (l : List Ev) (hck : ∀ e ∈ l, checkE e = 0) (hlen : l.length ≤ 20000) (s : ByteArray) (a : Option Addr) (c : Nat) (w : World) (hs : Sl w (.slice a l.length c) l.length (l.flatMap evL)) :
    Calls Try.prog 82 #[.slice a l.length c, .string s] w fun e w' => e = .returned (.int .i64 (kOf s 0 0 l)) ∧ Below w.heap.size w w' := by
  have HI := Lib.hid ev_info
  have HCK := Lib.hid hck
  clear hck
  go_enter Try.func82, Try.ntmps82
  go_wp2
  go_loopw [5, 6, 11] (fun o n i wr => ∃ (k m : Nat) (out : Int), k ≤ l.length ∧ m ≤ k ∧ i = .int .i64 k ∧ n = .int .i64 m ∧ o = .int .i64 out ∧ Hid (kOf s 0 0 l = kOf s out m (l.drop k)) ∧ Below w.heap.size w wr) (fun _ _ i _ => l.length - (intOf i).toNat)
  case atStart => exact ⟨0, 0, 0, by omega, by omega, rfl, rfl, rfl, rfl, Below.refl _ _⟩
  case round =>
    obtain ⟨k, m, out, hk, hmk, rfl, rfl, rfl, HK, hb⟩ := hrel
    by_cases hlt : k < l.length
    · have hgk := List.getElem?_eq_getElem hlt
      obtain ⟨hn1, hn2, ht1, ht2⟩ := number_ok (HCK.out l[k] (List.getElem_mem _))
      generalize l[k] = e at hgk hn1 hn2 ht1 ht2
      obtain ⟨b, o, rfl, e0, e1, e2, e3, e4, e5, e6, e7⟩ := ev_cells (hs.ext hb) hgk
      have HST : Hid (kOf s 0 0 l = if e.shard = s then (if e.number = m + 1 then kOf s (if e.kind = 3 then mx out e.time else out) (m + 1) (l.drop (k + 1)) else out) else kOf s out m (l.drop (k + 1))) := by
        have := HK.out; rw [kOf_step s out m hgk] at this; exact this
      clear hgk
      go_upto_region 5 with (fail)
      clear e0 e1 e2 e3 e4 e5 e6 e7
      refine wp_box1 fun X hszX hbX hX => ?_
      have hbx := ext_trans hb hbX
      have g0 := hX.2 0
      have g1 := hX.2 1
      have g2 := hX.2 2
      have g3 := hX.2 3
      clear hX hszX hbX hb
      by_cases hsh : e.shard = s
      · have hsb : (e.shard.toList == s.toList) = true := by rw [hsh]; simp
        have HS2 : Hid (kOf s 0 0 l = (if e.number = m + 1 then kOf s (if e.kind = 3 then mx out e.time else out) (m + 1) (l.drop (k + 1)) else out)) := by
          have := HST.out; rw [if_pos hsh] at this; exact this
        clear hsh HST
        by_cases hnm : e.number = m + 1
        · have HS3 : Hid (kOf s 0 0 l = kOf s (if e.kind = 3 then mx out e.time else out) (m + 1) (l.drop (k + 1))) := by
            have := HS2.out; rw [if_pos hnm] at this; exact this
          clear HS2
          by_cases hkd : e.kind = 3
          · have HS4 : Hid (kOf s 0 0 l = kOf s (mx out e.time) ((m + 1 : Nat) : Int) (l.drop (k + 1))) := by
              have := HS3.out; rw [if_pos hkd] at this; exact this
            clear HS3
            go_wp2
            all_goals go_roundw
            case rel => exact ⟨k + 1, m + 1, mx out e.time, by omega, by omega, by go_num, by go_num, rfl, HS4, hbx⟩
            case measure => simp [intOf]; omega
          · have HS4 : Hid (kOf s 0 0 l = kOf s out ((m + 1 : Nat) : Int) (l.drop (k + 1))) := by
              have := HS3.out; rw [if_neg hkd] at this; exact this
            clear HS3
            go_wp2
            all_goals go_roundw
            case rel => exact ⟨k + 1, m + 1, out, by omega, by omega, by go_num, by go_num, rfl, HS4, hbx⟩
            case measure => simp [intOf]; omega
        · have HS3 : Hid (kOf s 0 0 l = out) := by
            have := HS2.out; rw [if_neg hnm] at this; exact this
          clear HS2
          go_wp2
          go_ret
          exact ⟨ret_int HS3.out.symm, hbx⟩
      · have hsb : (e.shard.toList == s.toList) = false := ne_toList hsh
        have HS2 : Hid (kOf s 0 0 l = kOf s out m (l.drop (k + 1))) := by
          have := HST.out; rw [if_neg hsh] at this; exact this
        clear hsh HST
        go_wp2
        all_goals go_roundw
        case rel => exact ⟨k + 1, m, out, by omega, by omega, by go_num, rfl, rfl, HS2, hbx⟩
        case measure => simp [intOf]; omega
    · have HF : Hid (kOf s 0 0 l = out) := by
        have := HK.out
        rw [drop_nil l k (by omega)] at this
        exact this
      go_wp2
      go_ret
      exact ⟨ret_int HF.out.symm, hb⟩
end Go.Proofs.Ytacchooggifnhaa
namespace Go.Proofs.Ytacchooggifnhaa
open Go.RowKit
def wholeTo (l : List Ev) : Nat → Bool
  | 0 => true
  | k + 1 => match l[k]? with
    | some e => (if newAt l k then true else wholeTo l k) && decide (e.number = nextAt l k)
    | none => wholeTo l k
def byTo (l : List Ev) (s : ByteArray) : Nat → Int
  | 0 => 0
  | k + 1 => match l[k]? with
    | some e => if wholeTo l (k + 1) = true ∧ e.kind = 3 ∧ e.shard = s then mx (byTo l s k) e.time else byTo l s k
    | none => byTo l s k
structure Kst where
  out : Int
  n : Int
  st : Bool
def stepK (s : ByteArray) (q : Kst) (e : Ev) : Kst :=
  if q.st then q else if e.shard = s then (if e.number = q.n + 1 then ⟨if e.kind = 3 then mx q.out e.time else q.out, q.n + 1, false⟩ else { q with st := true }) else q
def refTo (l : List Ev) (s : ByteArray) : Nat → Kst
  | 0 => ⟨0, 0, false⟩
  | k + 1 => match l[k]? with
    | some e => stepK s (refTo l s k) e
    | none => refTo l s k
theorem refTo_step {l : List Ev} {k : Nat} {e : Ev} (s : ByteArray) (h : l[k]? = some e) : refTo l s (k + 1) = stepK s (refTo l s k) e := by simp only [refTo, h]
theorem kOf_refTo (l : List Ev) (s : ByteArray) : ∀ k, k ≤ l.length → kOf s 0 0 l = if (refTo l s k).st then (refTo l s k).out else kOf s (refTo l s k).out (refTo l s k).n (l.drop k)
  | 0, _ => by simp [refTo]
  | k + 1, h => by
    have ih := kOf_refTo l s k (by omega)
    have hg := List.getElem?_eq_getElem (show k < l.length by omega)
    generalize l[k] = e at hg
    rw [kOf_step s _ _ hg] at ih
    rw [refTo_step s hg, ih]
    unfold stepK
    by_cases h1 : (refTo l s k).st = true
    · simp [h1]
    · by_cases h2 : e.shard = s
      · by_cases h3 : e.number = (refTo l s k).n + 1
        · simp [h1, h2, h3]
        · simp [h1, h2, h3]
      · simp [h1, h2]
theorem kOf_end (l : List Ev) (s : ByteArray) : kOf s 0 0 l = (refTo l s l.length).out := by
  have := kOf_refTo l s l.length (Nat.le_refl _)
  rw [drop_nil l l.length (Nat.le_refl _)] at this
  rw [this]; simp [kOf]
/-- no event of the shard ahead: nothing is known of it -/
theorem refTo_fresh {l : List Ev} {s : ByteArray} : ∀ k, (∀ j e, j < k → l[j]? = some e → e.shard ≠ s) → refTo l s k = ⟨0, 0, false⟩
  | 0, _ => rfl
  | k + 1, h => by
    have ih := refTo_fresh k (fun j e hj he => h j e (by omega) he)
    cases hg : l[k]? with
    | none => simp only [refTo, hg]; exact ih
    | some e => rw [refTo_step s hg, ih]; simp [stepK, h k e (by omega) hg]
/-- neighbours are in order -/
theorem scan_next : ∀ (p : Option Ev) (l : List Ev), scanFrom p l = 0 → (∀ q e, p = some q → l[0]? = some e → ordE q e < 0) ∧ ∀ k q e, l[k]? = some q → l[k + 1]? = some e → ordE q e < 0
  | _, [], _ => ⟨fun _ _ _ h => by simp at h, fun _ _ _ h => by simp at h⟩
  | p, x :: l, h => by
    simp only [scanFrom] at h
    by_cases hx : checkE x = 0
    · rw [if_neg (by simp [hx])] at h
      have h' := ite8 _ _ h
      obtain ⟨i1, i2⟩ := scan_next (some x) l h'
      refine ⟨fun q e hp he => ?_, fun k q e hq he => ?_⟩
      · subst hp
        simp at he; subst he
        by_cases ho : 0 ≤ ordE q x
        · simp [ho] at h
        · omega
      · cases k with
        | zero => simp at hq he; subst hq; exact i1 x e rfl he
        | succ k => exact i2 k q e (by simpa using hq) (by simpa using he)
    · rw [if_pos hx] at h; omega
theorem ord_shard {a b : Ev} (h : ordE a b < 0) : cmpS a.shard b.shard ≤ 0 := by
  unfold ordE orI at h
  have := cmpS_tri a.shard b.shard
  split at h <;> omega
theorem sorted {l : List Ev} (h : scanFrom none l = 0) : ∀ (d i : Nat) (q e : Ev), l[i]? = some q → l[i + d]? = some e → cmpS q.shard e.shard ≤ 0
  | 0, i, q, e, hq, he => by simp at he; rw [hq] at he; cases he; rw [cmpS_self]; exact Int.le_refl _
  | d + 1, i, q, e, hq, he => by
    have hlt : i + d < l.length := by have := (List.getElem?_eq_some_iff.1 he).1; omega
    have hg := List.getElem?_eq_getElem hlt
    exact cmpS_trans (sorted h d i q _ hq hg) (ord_shard ((scan_next none l h).2 (i + d) _ e hg he))
/-- a shard that begins at k + 1 did not come ahead -/
theorem fresh {l : List Ev} (h : scanFrom none l = 0) {k : Nat} {p e : Ev} (hp : l[k]? = some p) (he : l[k + 1]? = some e) (hne : p.shard ≠ e.shard) : ∀ j q, j < k + 1 → l[j]? = some q → q.shard ≠ e.shard := by
  intro j q hj hq heq
  have h1 := sorted h (k - j) j q p hq (by rw [show j + (k - j) = k by omega]; exact hp)
  have h2 := sorted h 1 k p e hp he
  rw [heq] at h1
  rw [cmpS_anti] at h1
  exact hne (cmpS_zero (by omega))
/-- both go hand in hand -/
theorem hand {l : List Ev} (h : scanFrom none l = 0) (s : ByteArray) : ∀ k, k ≤ l.length → byTo l s k = (refTo l s k).out ∧ (∀ j p, k = j + 1 → l[j]? = some p → p.shard = s → wholeTo l k = !(refTo l s k).st ∧ ((refTo l s k).st = false → (refTo l s k).n = p.number))
  | 0, _ => ⟨rfl, fun _ _ h => by omega⟩
  | k + 1, hk => by
    obtain ⟨i1, i2⟩ := hand h s k (by omega)
    have hg := List.getElem?_eq_getElem (show k < l.length by omega)
    generalize l[k] = e at hg
    have hw : wholeTo l (k + 1) = ((if newAt l k then true else wholeTo l k) && decide (e.number = nextAt l k)) := by simp only [wholeTo, hg]
    have hb : byTo l s (k + 1) = if wholeTo l (k + 1) = true ∧ e.kind = 3 ∧ e.shard = s then mx (byTo l s k) e.time else byTo l s k := by simp only [byTo, hg]
    by_cases hs : e.shard = s
    · -- the state ahead of this event
      have key : (if newAt l k then true else wholeTo l k) = !(refTo l s k).st ∧ ((refTo l s k).st = false → nextAt l k = (refTo l s k).n + 1) := by
        cases k with
        | zero => simp [newAt, refTo, nextAt]
        | succ j =>
          have hgj := List.getElem?_eq_getElem (show j < l.length by omega)
          generalize l[j] = p at hgj
          have hnew : newAt l (j + 1) = decide (e.shard ≠ p.shard) := by rw [newAt, hg, hgj]; simp
          by_cases hq : p.shard = e.shard
          · obtain ⟨a1, a2⟩ := i2 j p rfl hgj (by rw [hq, hs])
            rw [hnew]
            refine ⟨by simp [hq, a1], fun h0 => ?_⟩
            simp only [nextAt, hgj, hg, if_pos hq, a2 h0]
          · have hf := fresh h hgj hg hq
            rw [hs] at hf
            rw [refTo_fresh (j + 1) hf, hnew]
            refine ⟨by simp [Ne.symm hq], fun _ => ?_⟩
            simp only [nextAt, hgj, hg, if_neg hq]; rfl
      obtain ⟨k1, k2⟩ := key
      rw [hb, hw, k1, refTo_step s hg, i1]
      unfold stepK
      cases hst : (refTo l s k).st
      · have k3 := k2 hst
        by_cases hn : e.number = (refTo l s k).n + 1
        · by_cases hk3 : e.kind = 3
          · refine ⟨by simp [k3, hn, hs, hk3], fun j p hj hp _ => ?_⟩
            obtain rfl : j = k := by omega
            rw [hg] at hp; cases hp
            simp [k3, hn, hs]
          · refine ⟨by simp [k3, hn, hs, hk3], fun j p hj hp _ => ?_⟩
            obtain rfl : j = k := by omega
            rw [hg] at hp; cases hp
            simp [k3, hn, hs]
        · refine ⟨by simp [k3, hn, hs], fun j p hj hp _ => ?_⟩
          simp [k3, hn, hs]
      · refine ⟨by simp, fun j p hj hp _ => ?_⟩
        simp [hst]
    · refine ⟨?_, fun j p hj hp hps => ?_⟩
      · rw [hb, refTo_step s hg, i1]
        simp [stepK, hs]
      · obtain rfl : j = k := by omega
        rw [hg] at hp; cases hp; exact absurd hps hs
theorem by_known {l : List Ev} (h : checkL l = 0) (s : ByteArray) : byTo l s l.length = kOf s 0 0 l := by
  rw [kOf_end, (hand (check_ok h).2.2 s l.length (Nat.le_refl _)).1]
end Go.Proofs.Ytacchooggifnhaa
namespace Go.Proofs.Ytacchooggifnhaa
open Go.RowKit Go.Maps
def minL (f : ByteArray → Int) : Int → List ByteArray → Int
  | o, [] => o
  | o, s :: r => minL f (mn o (f s)) r
theorem minL_step (f : ByteArray → Int) (o : Int) {l : List ByteArray} {k : Nat} {s : ByteArray} (h : l[k]? = some s) : minL f o (l.drop k) = minL f (mn o (f s)) (l.drop (k + 1)) := by
  obtain ⟨hk, rfl⟩ := List.getElem?_eq_some_iff.1 h
  rw [List.drop_eq_getElem_cons hk]; rfl
theorem lawS : Keyed Try.prog 9 := string_keyed Try.underlying9
theorem zeroI (w : World) : (zeroValue 3).run Try.prog w = .ok (.int .i64 0) w := by kernel_rfl
theorem ownsMap_ext {H : Type} {P : Program} {k : TypeId} {R : Value → Option (DataW H × List MemPlace)} {b n : Nat} {D : DataW H} {w w' : World} (h : w.ownsMap P k R b n D) (hb : Below w.heap.size w w') : w'.ownsMap P k R b n D := by
  have hlt := h.lt
  obtain ⟨es, clock, h1, F, h2, hD⟩ := h
  exact ⟨es, clock, (hb.block b hlt).trans h1, F, h2, hD⟩
theorem ownsMap_more {H : Type} {P : Program} {k : TypeId} {R : Value → Option (DataW H × List MemPlace)} {b n m : Nat} {D : DataW H} {w : World} (h : w.ownsMap P k R b n D) (hm : n ≤ m) : w.ownsMap P k R b m D := by
  obtain ⟨es, clock, h1, F, h2, hD⟩ := h
  exact ⟨es, clock, h1, F, Nat.le_trans h2 hm, hD⟩
def Reads (D : DataW Unit) (f : ByteArray → Int) : Prop := ∀ s : ByteArray, D.atKey (.string s.data.toList) (.lit (.int .i64 0)) = .lit (.int .i64 (f s))
theorem Reads.put {D : DataW Unit} {f g : ByteArray → Int} (h : Reads D f) (hm : IsMap D) (s : ByteArray) (c : Int) (hs : g s = c) (ho : ∀ x, x ≠ s → g x = f x) : Reads (D.put (.string s.data.toList) (.lit (.int .i64 c))) g := by
  intro x
  by_cases hx : x = s
  · subst hx; rw [atKey_put_same hm (show WideAt.IsKeyLit (.string x.data.toList) from trivial), hs]
  · rw [atKey_put_other (fun e => hx (bytes_ext (by injection e))), h x, ho x hx]
theorem Reads.same {D : DataW Unit} {f g : ByteArray → Int} (h : Reads D f) (ho : ∀ x, g x = f x) : Reads D g := fun x => by rw [h x, ho x]
theorem Reads.val {D : DataW Unit} {f : ByteArray → Int} (h : Reads D f) {s : ByteArray} {c : Int} (hc : D.atKey (.string s.data.toList) (.lit (.int .i64 0)) = .lit (.int .i64 c)) : c = f s := by
  rw [h s] at hc; injection hc with h1; injection h1 with _ h2; exact h2.symm
theorem wf_mx {c t : Int} (h : (Lit.int .i64 c).wf = true) (h0 : 0 ≤ t) (h1 : t ≤ 4000000000) : (Lit.int .i64 (mx c t)).wf = true := by
  unfold mx; split
  · exact WalkArith.wf_i64 (by omega)
  · exact h
theorem whole_step {l : List Ev} {k : Nat} {e : Ev} {b : Bool} {nx : Int} (hg : l[k]? = some e) (hb : (if newAt l k then true else wholeTo l k) = b) (hx : nextAt l k = nx) : wholeTo l (k + 1) = (b && decide (e.number = nx)) := by
  simp only [wholeTo, hg, hx]; rw [hb]
theorem by_yes {l : List Ev} {k : Nat} {e : Ev} (hg : l[k]? = some e) (hw : wholeTo l (k + 1) = true) (hk : e.kind = 3) : byTo l e.shard (k + 1) = mx (byTo l e.shard k) e.time ∧ ∀ x, x ≠ e.shard → byTo l x (k + 1) = byTo l x k := by
  refine ⟨by simp only [byTo, hg, hw, hk, and_self, if_true], fun x hx => ?_⟩
  simp only [byTo, hg]; rw [if_neg (fun h => hx h.2.2.symm)]
theorem by_no {l : List Ev} {k : Nat} {e : Ev} (hg : l[k]? = some e) (hn : wholeTo l (k + 1) = false ∨ e.kind ≠ 3) (x : ByteArray) : byTo l x (k + 1) = byTo l x k := by
  simp only [byTo, hg]
  rw [if_neg]
  rintro ⟨h1, h2, _⟩
  rcases hn with h | h
  · rw [h1] at h; cases h
  · exact h h2
def knownE (l : List Ev) (L : List ByteArray) : Int := match L with
  | [] => 0
  | s :: _ => minL (fun x => byTo l x l.length) (byTo l s l.length) L

set_option maxRecDepth 100000 in
set_option maxHeartbeats 16000000 in
theorem event_known (l : List Ev) (hok : ∀ e ∈ l, e.ok) (hck : ∀ e ∈ l, checkE e = 0) (hlen : l.length ≤ 20000) (s0 : ByteArray) (r : List ByteArray) (L : List ByteArray) (hL : L = s0 :: r) (hsz : ∀ s ∈ L, s.size ≤ maxLen) (hl50 : L.length ≤ 50) (a a2 : Option Addr) (c c2 : Nat) (w : World)
    (hs : Sl w (.slice a l.length c) l.length (l.flatMap evL)) (hs2 : Sl w (.slice a2 L.length c2) L.length (L.map Value.string)) :
    Calls Try.prog 41 #[.slice a l.length c, .slice a2 L.length c2] w fun e w' => e = .returned (.int .i64 (knownE l L)) ∧ Below w.heap.size w w' := by
  have HRES : Hid (knownE l L = minL (fun x => byTo l x l.length) (byTo l s0 l.length) L) := by
    have : knownE l L = minL (fun x => byTo l x l.length) (byTo l s0 l.length) L := by subst hL; rfl
    exact this
  have HL0 : Hid (L[0]? = some s0) := by have : L[0]? = some s0 := by subst hL; rfl
                                         exact this
  have hpos : 0 < L.length := by subst hL; simp
  have HCK := Lib.hid hck
  have HOK := Lib.hid hok
  have HSZ := Lib.hid hsz
  clear hL hck hok hsz
  have hmm := @run_makeMap Try.prog
  go_enter Try.func41, Try.ntmps41
  go_wp2
  go_loopw [6, 16] (fun v i wr => ∃ (k : Nat) (D : DataW Unit), k ≤ l.length ∧ i = .int .i64 k ∧ v = .bool (wholeTo l k) ∧ wr.ownsMap Try.prog 9 (plainElem Try.prog 3) w.heap.size k D ∧ Hid (Reads D (fun s => byTo l s k)) ∧ Below w.heap.size w wr) (fun _ i _ => l.length - (intOf i).toNat)
  case atStart => exact ⟨0, _, by omega, rfl, rfl, World.ownsMap_made _ _ _ _, fun _ => rfl, (Below.refl _ _).alloc (Nat.le_refl _) _⟩
  case round =>
    obtain ⟨k, D, hk, rfl, rfl, hown, HD, hb⟩ := hrel
    by_cases hlt : k < l.length
    · have hgk := List.getElem?_eq_getElem hlt
      obtain ⟨hn1, hn2, ht1, ht2⟩ := number_ok (HCK.out l[k] (List.getElem_mem _))
      have hok := HOK.out l[k] (List.getElem_mem _)
      generalize l[k] = s at hgk hn1 hn2 ht1 ht2 hok
      have hkey : keyOf Try.prog 9 (.string s.shard) = some (.string s.shard.data.toList) := WideMaps.keyOf_string_mk Try.underlying9 hok.1
      obtain ⟨b, o, rfl, e0, e1, e2, e3, e4, e5, e6, e7⟩ := ev_cells (hs.ext hb) hgk
      have HGK := Lib.hid hgk
      clear hgk hok
      go_upto_region 7 with (fail)
      clear e0 e1 e2 e3 e4 e5 e6 e7
      refine wp_box1 fun X hszX hbX hX => ?_
      have hbx := ext_trans hb hbX
      have hownX := ownsMap_ext hown hbX
      have hszx := hbx.size
      have g0 := hX.2 0
      have g1 := hX.2 1
      have g2 := hX.2 2
      have g3 := hX.2 3
      clear hszX hown hb hbX hX
      by_cases h0 : k = 0
      · subst h0
        have HX : Hid (nextAt l 0 = 1) := rfl
        have HB : Hid ((if newAt l 0 then true else wholeTo l 0) = true) := rfl
        have hwh : wholeTo l 0 = true := rfl
        go_quiet (fail)
        clear hwh
        have hownX' := ownsMap_ext hownX (below_drewN (Below.refl _ _) nq)
        have hbx' := ext_trans hbx (below_drewN (Below.refl _ _) nq)
        clear hownX hbx
        by_cases hn : s.number = 1
        · have HW : Hid (wholeTo l (0 + 1) = true) := by have := whole_step HGK.out HB.out HX.out; simp [hn] at this; exact this
          by_cases hkd : s.kind = 3
          · have HBY := Lib.hid (by_yes HGK.out HW.out hkd)
            go_wp2_with (first | (at_lookup; refine wpList_lookup_own_int _ rfl _ _ 94 rfl 9 3 .i64 lawS Try.underlying94 Try.underlying3 (zeroI _) w.heap.size _ _ rfl hownX' _ _ rfl hkey ?_; intro cc hat hwc) | (at_mapUpdate; refine wpList_mapUpdate_own _ rfl _ _ _ 94 rfl 9 3 lawS Try.underlying94 _ w.heap.size _ _ rfl hownX' (by unfold maxLen; omega) _ (.int .i64 (mx cc s.time)) _ rfl rfl hkey _ [] (plainElem_int Try.underlying3 (wf_mx hwc ht1 ht2)) ?_; intro w8 hown8 hg8) | go_in)
            go_roundw
            case rel => exact ⟨0 + 1, _, by omega, by go_num, by rw [HW.out], ownsMap_more hown8 (by omega), HD.out.put (hownX'.isMap) s.shard _ (by rw [HBY.out.1, HD.out.val hat]) HBY.out.2, hbx'.grown hg8 hbx'.size (fun q hq => by cases hq; exact Nat.le_refl _)⟩
            case measure => simp [intOf]; omega
          · have HD' : Hid (Reads D (fun x => byTo l x (0 + 1))) := HD.out.same (by_no HGK.out (.inr hkd))
            go_wp2
            go_roundw
            case rel => exact ⟨0 + 1, D, by omega, by go_num, by rw [HW.out], ownsMap_more hownX' (by omega), HD', hbx'⟩
            case measure => simp [intOf]; omega
        · have HW : Hid (wholeTo l (0 + 1) = false) := by have := whole_step HGK.out HB.out HX.out; simp [hn] at this; exact this
          have HD' : Hid (Reads D (fun x => byTo l x (0 + 1))) := HD.out.same (by_no HGK.out (.inl HW.out))
          go_wp2
          go_roundw
          case rel => exact ⟨0 + 1, D, by omega, by go_num, by rw [HW.out] <;> simp [hn], ownsMap_more hownX' (by omega), HD', hbx'⟩
          case measure => simp [intOf]; omega
      · obtain ⟨j, rfl⟩ : ∃ j, k = j + 1 := ⟨k - 1, by omega⟩
        have hgj := List.getElem?_eq_getElem (show j < l.length by omega)
        obtain ⟨hm1, hm2, _⟩ := number_ok (HCK.out l[j] (List.getElem_mem _))
        have hnx : nextAt l (j + 1) = if (l[j]).shard = s.shard then (l[j]).number + 1 else 1 := by rw [nextAt, hgj, HGK.out]
        have hnew : newAt l (j + 1) = decide (s.shard ≠ (l[j]).shard) := by rw [newAt, HGK.out, hgj]; simp
        generalize l[j] = s' at hgj hm1 hm2 hnx hnew
        obtain ⟨b', o', hb', f0, f1, _⟩ := ev_cells (hs.ext hbx) hgj
        cases hb'
        have hj0 : (0 : Int) ≤ (j : Int) := Int.natCast_nonneg _
        have hj1 : (j : Int) < (l.length : Int) := by omega
        have hpos1 : decide ((0 : Int) < (j : Int) + 1) = true := decide_eq_true (by omega)
        have hwj : IntKind.i64.wrap (j : Int) = (j : Int) := IntWalk.i64_in _ (by omega)
        clear hgj h0
        by_cases hq : s'.shard = s.shard
        · have hq1 : (s'.shard.toList == s.shard.toList) = true := by rw [hq]; simp
          have HX : Hid (nextAt l (j + 1) = s'.number + 1) := by rw [if_pos hq] at hnx; exact hnx
          obtain ⟨wh, hwh⟩ : ∃ wh, wholeTo l (j + 1) = wh := ⟨_, rfl⟩
          have hnf : newAt l (j + 1) = false := by rw [hnew]; simp [hq]
          have HB : Hid ((if newAt l (j + 1) then true else wholeTo l (j + 1)) = wh) := by
            have : (if newAt l (j + 1) then true else wholeTo l (j + 1)) = wh := by rw [hnf, hwh]; rfl
            exact this
          clear hq hnx hnew hnf
          rw [hwh]
          clear hwh
          cases wh
          · go_quiet (fail)
            clear hwj hpos1
            have hownX' := ownsMap_ext hownX (below_drewN (Below.refl _ _) nq)
            have hbx' := ext_trans hbx (below_drewN (Below.refl _ _) nq)
            clear hownX hbx
            have HW : Hid (wholeTo l ((j + 1) + 1) = false) := by have := whole_step HGK.out HB.out HX.out; simp at this; exact this
            have HD' : Hid (Reads D (fun x => byTo l x ((j + 1) + 1))) := HD.out.same (by_no HGK.out (.inl HW.out))
            go_wp2
            go_roundw
            case rel => exact ⟨(j + 1) + 1, D, by omega, by go_num, by rw [HW.out], ownsMap_more hownX' (by omega), HD', hbx'⟩
            case measure => simp [intOf]; omega
          · go_quiet (fail)
            clear hwj hpos1
            have hownX' := ownsMap_ext hownX (below_drewN (Below.refl _ _) nq)
            have hbx' := ext_trans hbx (below_drewN (Below.refl _ _) nq)
            clear hownX hbx
            by_cases hn : s.number = s'.number + 1
            · have HW : Hid (wholeTo l ((j + 1) + 1) = true) := by have := whole_step HGK.out HB.out HX.out; simp [hn] at this; exact this
              by_cases hkd : s.kind = 3
              · have HBY := Lib.hid (by_yes HGK.out HW.out hkd)
                go_wp2_with (first | (at_lookup; refine wpList_lookup_own_int _ rfl _ _ 94 rfl 9 3 .i64 lawS Try.underlying94 Try.underlying3 (zeroI _) w.heap.size _ _ rfl hownX' _ _ rfl hkey ?_; intro cc hat hwc) | (at_mapUpdate; refine wpList_mapUpdate_own _ rfl _ _ _ 94 rfl 9 3 lawS Try.underlying94 _ w.heap.size _ _ rfl hownX' (by unfold maxLen; omega) _ (.int .i64 (mx cc s.time)) _ rfl rfl hkey _ [] (plainElem_int Try.underlying3 (wf_mx hwc ht1 ht2)) ?_; intro w8 hown8 hg8) | go_in)
                go_roundw
                case rel => exact ⟨(j + 1) + 1, _, by omega, by go_num, by rw [HW.out], ownsMap_more hown8 (by omega), HD.out.put (hownX'.isMap) s.shard _ (by rw [HBY.out.1, HD.out.val hat]) HBY.out.2, hbx'.grown hg8 hbx'.size (fun q hq => by cases hq; exact Nat.le_refl _)⟩
                case measure => simp [intOf]; omega
              · have HD' : Hid (Reads D (fun x => byTo l x ((j + 1) + 1))) := HD.out.same (by_no HGK.out (.inr hkd))
                go_wp2
                go_roundw
                case rel => exact ⟨(j + 1) + 1, D, by omega, by go_num, by rw [HW.out], ownsMap_more hownX' (by omega), HD', hbx'⟩
                case measure => simp [intOf]; omega
            · have HW : Hid (wholeTo l ((j + 1) + 1) = false) := by have := whole_step HGK.out HB.out HX.out; simp [hn] at this; exact this
              have HD' : Hid (Reads D (fun x => byTo l x ((j + 1) + 1))) := HD.out.same (by_no HGK.out (.inl HW.out))
              go_wp2
              go_roundw
              case rel => exact ⟨(j + 1) + 1, D, by omega, by go_num, by rw [HW.out] <;> simp [hn], ownsMap_more hownX' (by omega), HD', hbx'⟩
              case measure => simp [intOf]; omega
        · have hq1 : (s'.shard.toList == s.shard.toList) = false := ne_toList hq
          have HX : Hid (nextAt l (j + 1) = 1) := by rw [if_neg hq] at hnx; exact hnx
          have HB : Hid ((if newAt l (j + 1) then true else wholeTo l (j + 1)) = true) := by
            have : newAt l (j + 1) = true := by rw [hnew]; simp [Ne.symm hq]
            rw [this]; exact rfl
          clear hq hnx hnew
          go_quiet (fail)
          clear hwj hpos1
          have hownX' := ownsMap_ext hownX (below_drewN (Below.refl _ _) nq)
          have hbx' := ext_trans hbx (below_drewN (Below.refl _ _) nq)
          clear hownX hbx
          by_cases hn : s.number = 1
          · have HW : Hid (wholeTo l ((j + 1) + 1) = true) := by have := whole_step HGK.out HB.out HX.out; simp [hn] at this; exact this
            by_cases hkd : s.kind = 3
            · have HBY := Lib.hid (by_yes HGK.out HW.out hkd)
              go_wp2_with (first | (at_lookup; refine wpList_lookup_own_int _ rfl _ _ 94 rfl 9 3 .i64 lawS Try.underlying94 Try.underlying3 (zeroI _) w.heap.size _ _ rfl hownX' _ _ rfl hkey ?_; intro cc hat hwc) | (at_mapUpdate; refine wpList_mapUpdate_own _ rfl _ _ _ 94 rfl 9 3 lawS Try.underlying94 _ w.heap.size _ _ rfl hownX' (by unfold maxLen; omega) _ (.int .i64 (mx cc s.time)) _ rfl rfl hkey _ [] (plainElem_int Try.underlying3 (wf_mx hwc ht1 ht2)) ?_; intro w8 hown8 hg8) | go_in)
              go_roundw
              case rel => exact ⟨(j + 1) + 1, _, by omega, by go_num, by rw [HW.out], ownsMap_more hown8 (by omega), HD.out.put (hownX'.isMap) s.shard _ (by rw [HBY.out.1, HD.out.val hat]) HBY.out.2, hbx'.grown hg8 hbx'.size (fun q hq => by cases hq; exact Nat.le_refl _)⟩
              case measure => simp [intOf]; omega
            · have HD' : Hid (Reads D (fun x => byTo l x ((j + 1) + 1))) := HD.out.same (by_no HGK.out (.inr hkd))
              go_wp2
              go_roundw
              case rel => exact ⟨(j + 1) + 1, D, by omega, by go_num, by rw [HW.out], ownsMap_more hownX' (by omega), HD', hbx'⟩
              case measure => simp [intOf]; omega
          · have HW : Hid (wholeTo l ((j + 1) + 1) = false) := by have := whole_step HGK.out HB.out HX.out; simp [hn] at this; exact this
            have HD' : Hid (Reads D (fun x => byTo l x ((j + 1) + 1))) := HD.out.same (by_no HGK.out (.inl HW.out))
            go_wp2
            go_roundw
            case rel => exact ⟨(j + 1) + 1, D, by omega, by go_num, by rw [HW.out] <;> simp [hn], ownsMap_more hownX' (by omega), HD', hbx'⟩
            case measure => simp [intOf]; omega
    · have hkl : k = l.length := by omega
      subst hkl
      obtain ⟨b2, o2, rfl, z0⟩ := str_cell (hs2.ext hb) HL0.out
      simp only [Nat.add_zero] at z0
      have hkey0 : keyOf Try.prog 9 (.string s0) = some (.string s0.data.toList) := WideMaps.keyOf_string_mk Try.underlying9 (HSZ.out s0 (List.mem_of_getElem? HL0.out))
      go_wp2_with (first | (at_lookup; refine wpList_lookup_own_int _ rfl _ _ 94 rfl 9 3 .i64 lawS Try.underlying94 Try.underlying3 (zeroI _) w.heap.size _ _ rfl hown _ _ rfl hkey0 ?_; intro c0 hat hwc) | go_in)
      obtain rfl := HD.out.val hat
      clear hat z0
      go_loop [10, 72] (fun q i => ∃ (m : Nat) (out : Int), m ≤ L.length ∧ i = .int .i64 m ∧ q = .int .i64 out ∧ Hid (knownE l L = minL (fun x => byTo l x l.length) out (L.drop m))) (fun _ i => L.length - (intOf i).toNat)
      case atStart => exact ⟨0, _, by omega, rfl, rfl, HRES⟩
      case round =>
        obtain ⟨m, out, hm, rfl, rfl, HM⟩ := hrel
        by_cases hlm : m < L.length
        · have hgm := List.getElem?_eq_getElem hlm
          have hszm := HSZ.out L[m] (List.getElem_mem _)
          generalize L[m] = x at hgm hszm
          obtain ⟨b3, o3, hb3, z1⟩ := str_cell (hs2.ext hb) hgm
          cases hb3
          have HM2 : Hid (knownE l L = minL (fun x => byTo l x l.length) (mn out (byTo l x l.length)) (L.drop (m + 1))) := by
            have := HM.out; rw [minL_step _ _ hgm] at this; exact this
          clear hgm
          have hkeyx : keyOf Try.prog 9 (.string x) = some (.string x.data.toList) := WideMaps.keyOf_string_mk Try.underlying9 hszm
          go_wp2_with (first | (at_lookup; refine wpList_lookup_own_int _ rfl _ _ 94 rfl 9 3 .i64 lawS Try.underlying94 Try.underlying3 (zeroI _) w.heap.size _ _ rfl hown _ _ rfl hkeyx ?_; intro c1 hat1 hwc1) | go_in)
          obtain rfl := HD.out.val hat1
          go_round
          case rel => exact ⟨m + 1, _, by omega, by go_num, rfl, HM2⟩
          case measure => simp [intOf]; omega
        · have HF : Hid (knownE l L = out) := by
            have := HM.out
            rw [drop_nil L m (by omega)] at this
            exact this
          go_wp2
          go_ret
          exact ⟨ret_int HF.out.symm, hb⟩
end Go.Proofs.Ytacchooggifnhaa
