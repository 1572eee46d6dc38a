/- Plain: the reference's reading of versions, that can be partial. No program stands in it. Plain: the parts of a version's text; what reading gives. Printed by gen_vread.py. -/
import Derived.Test.YtfdaakghkhecgaaGreatDoorVm02
import Derived.Test.YtfdaakghkhecgaaGreatDoorVm03
namespace Go.Proofs.YtfdaakghkhecgaaGreatDoor
namespace Tx
open _root_.Go.Proofs.YtfdaakghkhecgaaGreatDoor.Nm
/-- a place that is left open -/
def isX (l : List UInt8) : Bool := decide (l = [120]) || decide (l = [88]) || decide (l = [42])
/-- the numbers ahead of what is left open -/
def rvN : List (List UInt8) → Bool → Option (List Nat)
  | [], _ => some []
  | w :: r, o => if isX w = true then rvN r true else if o = true then none else (vnO w).bind fun k => (rvN r false).map (k :: ·)
def zeroVer : Ver := ⟨0, 0, 0, []⟩
def rvO (t : List UInt8) : Option (Ver × Nat) :=
  if 3 < (cutL 46 (cut1 45 t).1).length then none else (rvN (cutL 46 (cut1 45 t).1) false).bind fun ns =>
    if (preO (cut1 45 t).2).all preOk = true ∧ ((cut1 45 t).2 = none ∨ ns.length = 3) ∧ (preO (cut1 45 t).2).length ≤ 10 then some (⟨(ns.getD 0 0 : Nat), (ns.getD 1 0 : Nat), (ns.getD 2 0 : Nat), preO (cut1 45 t).2⟩, ns.length) else none
theorem isX_no {l : List UInt8} (h : isX l = true) : vnO l = none := by
  unfold isX at h
  simp only [Bool.or_eq_true, decide_eq_true_eq] at h
  rcases h with (rfl | rfl) | rfl <;> rfl
theorem rvN_x {w : List UInt8} {r : List (List UInt8)} {o : Bool} (h : isX w = true) : rvN (w :: r) o = rvN r true := by rw [rvN, if_pos h]
theorem rvN_open {w : List UInt8} {r : List (List UInt8)} (h : isX w = false) : rvN (w :: r) true = none := by rw [rvN, if_neg (by rw [h]; decide), if_pos rfl]
theorem rvN_bad {w : List UInt8} {r : List (List UInt8)} {o : Bool} (h : isX w = false) (hv : vnO w = none) : rvN (w :: r) o = none := by
  rw [rvN, if_neg (by rw [h]; decide)]
  by_cases ho : o = true
  · rw [if_pos ho]
  · rw [if_neg ho, hv]; rfl
theorem rvN_num {w : List UInt8} {r : List (List UInt8)} {k : Nat} (h : isX w = false) (hv : vnO w = some k) : rvN (w :: r) false = (rvN r false).map (k :: ·) := by
  rw [rvN, if_neg (by rw [h]; decide), if_neg (by decide), hv]; rfl
theorem rvN_len : ∀ {l : List (List UInt8)} {o : Bool} {ns : List Nat}, rvN l o = some ns → ns.length ≤ l.length
  | [], _, ns, h => by injection h with h; subst h; exact Nat.le_refl _
  | w :: r, o, ns, h => by
    by_cases hx : isX w = true
    · rw [rvN_x hx] at h; exact Nat.le_succ_of_le (rvN_len h)
    · have hx' : isX w = false := by simpa using hx
      cases o with
      | true => rw [rvN_open hx'] at h; cases h
      | false =>
        cases hv : vnO w with
        | none => rw [rvN_bad hx' hv] at h; cases h
        | some k =>
          rw [rvN_num hx' hv] at h
          cases hr : rvN r false with
          | none => rw [hr] at h; cases h
          | some ms =>
            rw [hr] at h; injection h with h; subst h
            have := rvN_len hr
            show ms.length + 1 ≤ r.length + 1; omega
theorem rvN_all : ∀ {l : List (List UInt8)} {o : Bool} {ns : List Nat}, rvN l o = some ns → ns.length = l.length → l.map vnO = ns.map some
  | [], _, ns, h, _ => by injection h with h; subst h; rfl
  | w :: r, o, ns, h, hl => by
    by_cases hx : isX w = true
    · rw [rvN_x hx] at h; have := rvN_len h; rw [hl] at this; simp at this; omega
    · have hx' : isX w = false := by simpa using hx
      cases o with
      | true => rw [rvN_open hx'] at h; cases h
      | false =>
        cases hv : vnO w with
        | none => rw [rvN_bad hx' hv] at h; cases h
        | some k =>
          rw [rvN_num hx' hv] at h
          cases hr : rvN r false with
          | none => rw [hr] at h; cases h
          | some ms =>
            rw [hr] at h; injection h with h; subst h
            have hl' : ms.length = r.length := by simpa using hl
            show vnO w :: r.map vnO = some k :: ms.map some
            rw [hv, rvN_all hr hl']
theorem rvN_of : ∀ {l : List (List UInt8)} {ns : List Nat}, l.map vnO = ns.map some → rvN l false = some ns
  | [], [], _ => rfl
  | [], _ :: _, h => by cases h
  | _ :: _, [], h => by cases h
  | w :: r, k :: ns, h => by
    injection h with h1 h2
    have hx' : isX w = false := by
      cases hx : isX w with
      | false => rfl
      | true => rw [isX_no hx] at h1; cases h1
    rw [rvN_num hx' h1, rvN_of h2]; rfl
theorem rvN_bound : ∀ {l : List (List UInt8)} {o : Bool} {ns : List Nat}, rvN l o = some ns → ∀ i, ns.getD i 0 ≤ 999999
  | [], _, ns, h, i => by injection h with h; subst h; simp
  | w :: r, o, ns, h, i => by
    by_cases hx : isX w = true
    · rw [rvN_x hx] at h; exact rvN_bound h i
    · have hx' : isX w = false := by simpa using hx
      cases o with
      | true => rw [rvN_open hx'] at h; cases h
      | false =>
        cases hv : vnO w with
        | none => rw [rvN_bad hx' hv] at h; cases h
        | some k =>
          rw [rvN_num hx' hv] at h
          cases hr : rvN r false with
          | none => rw [hr] at h; cases h
          | some ms =>
            rw [hr] at h; injection h with h; subst h
            have hk := (vnO_iff.1 hv).2
            cases i with
            | zero => exact hk
            | succ i => exact rvN_bound hr i
/-- a whole version is one with three numbers -/
theorem rvO_ver (t : List UInt8) : verO t = (rvO t).bind fun p => if p.2 = 3 then some p.1 else none := by
  unfold verO rvO
  generalize cut1 45 t = ct
  obtain ⟨hd, tl⟩ := ct
  simp only
  generalize cutL 46 hd = l
  by_cases h3 : 3 < l.length
  · rw [if_pos h3]
    match l, h3 with
    | a :: b :: c :: d :: r, _ => rfl
  · rw [if_neg h3]
    have key : ∀ {a b c : List UInt8}, l = [a, b, c] → (match vnO a, vnO b, vnO c with
        | some x, some y, some z => if (preO tl).length ≤ 10 ∧ (preO tl).all preOk = true then some (⟨x, y, z, preO tl⟩ : Ver) else none
        | _, _, _ => none) = ((rvN l false).bind fun ns => if (preO tl).all preOk = true ∧ (tl = none ∨ ns.length = 3) ∧ (preO tl).length ≤ 10 then some ((⟨(ns.getD 0 0 : Nat), (ns.getD 1 0 : Nat), (ns.getD 2 0 : Nat), preO tl⟩ : Ver), ns.length) else none).bind fun p => if p.2 = 3 then some p.1 else none := by
      intro a b c hl
      subst hl
      cases hr : rvN [a, b, c] false with
      | none =>
        cases ha : vnO a with
        | none => rfl
        | some x =>
          cases hb : vnO b with
          | none => rfl
          | some y =>
            cases hc : vnO c with
            | none => rfl
            | some z =>
              have := rvN_of (l := [a, b, c]) (ns := [x, y, z]) (by simp [ha, hb, hc])
              rw [hr] at this; cases this
      | some ns =>
        by_cases hn : ns.length = 3
        · have := rvN_all hr hn
          match ns, hn with
          | [x, y, z], _ =>
            simp only [List.map_cons, List.map_nil, List.cons.injEq, and_true] at this
            obtain ⟨ha, hb, hc⟩ := this
            rw [ha, hb, hc]
            show (if (preO tl).length ≤ 10 ∧ (preO tl).all preOk = true then some (⟨(x : Int), (y : Int), (z : Int), preO tl⟩ : Ver) else none) = Option.bind (if _ then _ else _) _
            by_cases hp : (preO tl).length ≤ 10 ∧ (preO tl).all preOk = true
            · rw [if_pos hp, if_pos ⟨hp.2, .inr rfl, hp.1⟩]; rfl
            · rw [if_neg hp, if_neg (fun h => hp ⟨h.2.2, h.1⟩)]; rfl
        · have hlt := rvN_len hr
          refine Eq.trans ?_ (Eq.symm (?_ : _ = none))
          · cases ha : vnO a with
            | none => rfl
            | some x =>
              cases hb : vnO b with
              | none => rfl
              | some y =>
                cases hc : vnO c with
                | none => rfl
                | some z =>
                  have := rvN_of (l := [a, b, c]) (ns := [x, y, z]) (by simp [ha, hb, hc])
                  rw [hr] at this; injection this with this; rw [this] at hn; exact absurd rfl hn
          · show Option.bind (if _ then _ else _) _ = none
            split
            · show (if ns.length = 3 then _ else none) = none
              rw [if_neg hn]
            · rfl
    have short : l.length < 3 → ((rvN l false).bind fun ns => if (preO tl).all preOk = true ∧ (tl = none ∨ ns.length = 3) ∧ (preO tl).length ≤ 10 then some ((⟨(ns.getD 0 0 : Nat), (ns.getD 1 0 : Nat), (ns.getD 2 0 : Nat), preO tl⟩ : Ver), ns.length) else none).bind (fun p => if p.2 = 3 then some p.1 else none) = none := by
      intro hl
      cases hr : rvN l false with
      | none => rfl
      | some ns =>
        have := rvN_len hr
        show Option.bind (if _ then _ else _) _ = none
        split
        · show (if ns.length = 3 then _ else none) = none
          rw [if_neg (by omega)]
        · rfl
    rcases l with _ | ⟨a, _ | ⟨b, _ | ⟨c, _ | ⟨d, r⟩⟩⟩⟩
    · exact (short (by decide)).symm
    · exact (short (by simp)).symm
    · exact (short (by simp)).symm
    · exact key rfl
    · exact absurd (by simp) h3
theorem rvO_chk {t : List UInt8} {x : Ver} {k : Nat} (h : rvO t = some (x, k)) : chkVer x = 0 := by
  unfold rvO at h
  by_cases h3 : 3 < (cutL 46 (cut1 45 t).1).length
  · rw [if_pos h3] at h; cases h
  · rw [if_neg h3] at h
    cases hr : rvN (cutL 46 (cut1 45 t).1) false with
    | none => rw [hr] at h; cases h
    | some ns =>
      rw [hr] at h
      have h' : (if (preO (cut1 45 t).2).all preOk = true ∧ ((cut1 45 t).2 = none ∨ ns.length = 3) ∧ (preO (cut1 45 t).2).length ≤ 10 then some ((⟨(ns.getD 0 0 : Nat), (ns.getD 1 0 : Nat), (ns.getD 2 0 : Nat), preO (cut1 45 t).2⟩ : Ver), ns.length) else none) = some (x, k) := h
      split at h'
      · rename_i hc
        injection h' with h'
        injection h' with h1 h2
        subst h1
        have hb : ∀ i, ns.getD i 0 ≤ 999999 := rvN_bound hr
        have b0 := hb 0
        have b1 := hb 1
        have b2 := hb 2
        exact chk_of ⟨Int.natCast_nonneg _, by show ((ns.getD 0 0 : Nat) : Int) ≤ 999999; omega⟩ ⟨Int.natCast_nonneg _, by show ((ns.getD 1 0 : Nat) : Int) ≤ 999999; omega⟩ ⟨Int.natCast_nonneg _, by show ((ns.getD 2 0 : Nat) : Int) ≤ 999999; omega⟩ hc.2.2 hc.1
      · cases h'
end Tx
end Go.Proofs.YtfdaakghkhecgaaGreatDoor
namespace Go.Proofs.YtfdaakghkhecgaaGreatDoor
open Go.RowKit
namespace Tx
open _root_.Go.Proofs.YtfdaakghkhecgaaGreatDoor.Nm
theorem cut1_len (c : UInt8) (l : List UInt8) : (cut1 c l).1.length ≤ l.length ∧ ∀ q, (cut1 c l).2 = some q → q.length ≤ l.length := by
 have h := congrArg List.length (cut1_back c l)
 rw [List.length_append] at h
 refine ⟨by omega, fun q hq => ?_⟩
 rw [hq] at h
 simp only [tailO, List.length_cons] at h
 omega
theorem pieces_size {c : UInt8} {l : List UInt8} {k : Nat} (h : l.length ≤ k) : ∀ s ∈ (cutL c l).map stB, s.size ≤ k := by
 intro s hs
 obtain ⟨x, hx, rfl⟩ := List.mem_map.1 hs
 rw [stB_size]; have := cutL_len x hx; omega
theorem preO_some (q : List UInt8) : preO (some q) = (cutL 46 q).map stB := rfl
theorem rvO_long {t hd : List UInt8} {tl : Option (List UInt8)} (hc : cut1 45 t = (hd, tl)) (h : 3 < (cutL 46 hd).length) : rvO t = none := by unfold rvO; rw [hc]; exact if_pos h
theorem rvO_bad {t hd : List UInt8} {tl : Option (List UInt8)} (hc : cut1 45 t = (hd, tl)) (h : rvN (cutL 46 hd) false = none) : rvO t = none := by
 unfold rvO; rw [hc]
 by_cases h3 : 3 < (cutL 46 hd).length
 ·exact if_pos h3
 ·rw [if_neg h3, h]; rfl
theorem rvO_yes {t hd : List UInt8} {tl : Option (List UInt8)} {ns : List Nat} (hc : cut1 45 t = (hd, tl)) (h3 : (cutL 46 hd).length ≤ 3) (h : rvN (cutL 46 hd) false = some ns) : rvO t = if (preO tl).all preOk = true ∧ (tl = none ∨ ns.length = 3) ∧ (preO tl).length ≤ 10 then some (⟨(ns.getD 0 0 : Nat), (ns.getD 1 0 : Nat), (ns.getD 2 0 : Nat), preO tl⟩, ns.length) else none := by
 unfold rvO; rw [hc, if_neg (by simp only; omega), h]; rfl
/-- what reading gives: a version, how many numbers it has, and whether it is one -/
def RvPost (t : List UInt8) (w : World) (e : Ending) (w' : World) : Prop := ∃ x cs m b, e = .returned (.tuple #[.agg cs.toArray, .int .i64 m, .bool b]) ∧ RepVer w' x cs ∧ ((∃ k, rvO t = some (x, k) ∧ m = (k : Int) ∧ b = true) ∨ (rvO t = none ∧ b = false)) ∧ Below w.heap.size w w'
theorem verO_len {t hd : List UInt8} {tl : Option (List UInt8)} (hc : cut1 45 t = (hd, tl)) (h : (cutL 46 hd).length ≠ 3) : verO t = none := by
 unfold verO; rw [hc]; simp only
 generalize cutL 46 hd = L at h
 rcases L with _ | ⟨a, _ | ⟨b, _ | ⟨c, _ | ⟨d, r⟩⟩⟩⟩
 ·rfl
 ·rfl
 ·rfl
 ·exact absurd rfl h
 ·rfl
theorem verO_fail {t hd u : List UInt8} {tl : Option (List UInt8)} {k : Nat} (hc : cut1 45 t = (hd, tl)) (h : (cutL 46 hd)[k]? = some u) (hv : vnO u = none) : verO t = none := by
 by_cases h3 : (cutL 46 hd).length = 3
 ·unfold verO; rw [hc]; simp only
  rcases hl : cutL 46 hd with _ | ⟨a, _ | ⟨b, _ | ⟨c, _ | ⟨d, r⟩⟩⟩⟩
  ·rfl
  ·rfl
  ·rfl
  ·rw [hl] at h
   have hk : k < 3 := by
    rcases Nat.lt_or_ge k 3 with h9 | h9
    ·exact h9
    ·rw [List.getElem?_eq_none (by simpa using h9)] at h; cases h
   have hk3 : k = 0 ∨ k = 1 ∨ k = 2 := by omega
   rcases hk3 with rfl | rfl | rfl
   ·injection h with h; subst h; simp only [hv]
   ·injection h with h; subst h; simp only [hv]; cases vnO a <;> rfl
   ·injection h with h; subst h; simp only [hv]; cases vnO a <;> cases vnO b <;> rfl
  ·rfl
 ·exact verO_len hc h3
theorem verO_yes {t hd : List UInt8} {tl : Option (List UInt8)} {x y z : Nat} (hc : cut1 45 t = (hd, tl)) (h : (cutL 46 hd).map vnO = [some x, some y, some z]) : verO t = if chkVer ⟨(x : Int), (y : Int), (z : Int), preO tl⟩ = 0 then some ⟨(x : Int), (y : Int), (z : Int), preO tl⟩ else none := by
 rcases hl : cutL 46 hd with _ | ⟨a, _ | ⟨b, _ | ⟨c, _ | ⟨d, r⟩⟩⟩⟩
 ·rw [hl] at h; have h9 := congrArg List.length h; simp at h9
 ·rw [hl] at h; have h9 := congrArg List.length h; simp at h9
 ·rw [hl] at h; have h9 := congrArg List.length h; simp at h9
 ·rw [hl] at h
  simp only [List.map_cons, List.map_nil, List.cons.injEq, and_true] at h
  obtain ⟨ha, hb, hcc⟩ := h
  have b1 := (vnO_iff.1 ha).2
  have b2 := (vnO_iff.1 hb).2
  have b3 := (vnO_iff.1 hcc).2
  have e : verO t = if (preO tl).length ≤ 10 ∧ (preO tl).all preOk = true then some ⟨(x : Int), (y : Int), (z : Int), preO tl⟩ else none := by
   unfold verO; rw [hc]; simp only [hl, ha, hb, hcc]
  rw [e]
  by_cases hp : (preO tl).length ≤ 10 ∧ (preO tl).all preOk = true
  ·rw [if_pos hp, if_pos (chk_of ⟨by simp, by simp; omega⟩ ⟨by simp, by simp; omega⟩ ⟨by simp, by simp; omega⟩ hp.1 hp.2)]
  ·rw [if_neg hp, if_neg (fun h => hp ⟨(chk_num h).2.2.2.1, (chk_num h).2.2.2.2⟩)]
 ·rw [hl] at h; have h9 := congrArg List.length h; simp at h9
/-- what reading a whole version gives -/
def RdPost (t : List UInt8) (w : World) (e : Ending) (w' : World) : Prop := ∃ x cs f, e = .returned (.tuple #[.agg cs.toArray, .int .i64 f]) ∧ RepVer w' x cs ∧ ((verO t = some x ∧ f = 0) ∨ (verO t = none ∧ x = zeroVer ∧ f = 10)) ∧ Below w.heap.size w w'
end Tx
end Go.Proofs.YtfdaakghkhecgaaGreatDoor
