/- Decimal numerals: plain mathematics. The numeral of a number: plain mathematics. Plain: texts cut at a byte; numerals of at most 13 digits, read and written. No program stands in it. Plain: metrics' texts, written and read; what is read is written so, and the other way round. No program stands in it. Plain: a text cut at the first byte c. No program stands in it. Plain: metrics' texts, for the walks: the lines one by one, the checks one by one. No program stands in it. -/
import Derived.Test.YteaaibpanocgaaaDoorMt00
import Derived.Lib.SplitLaws
import Derived.Lib.AtoiTie
import Derived.Lib.ItoaNum
namespace Go.Proofs.YteaaibpanocgaaaDoor
namespace Nm
def digv (c : UInt8) : Nat := c.toNat - 48
/-- what digits mean -/
def decv (l : List UInt8) : Nat := l.foldl (fun a c => a * 10 + digv c) 0
theorem decv_nil : decv [] = 0 := rfl
theorem decv_foldl (m : List UInt8) : ∀ a, m.foldl (fun a c => a * 10 + digv c) a = a * 10 ^ m.length + decv m := by
  induction m with
  | nil => intro a; simp [decv]
  | cons c m ih =>
    intro a
    unfold decv
    simp only [List.foldl_cons, List.length_cons]
    rw [ih, ih (0 * 10 + digv c), Nat.pow_succ, Nat.zero_mul, Nat.zero_add, Nat.add_mul, Nat.mul_assoc, Nat.mul_comm 10]
    omega
theorem decv_append (l m : List UInt8) : decv (l ++ m) = decv l * 10 ^ m.length + decv m := by
  unfold decv; rw [List.foldl_append]; exact decv_foldl m _
theorem decv_snoc (l : List UInt8) (c : UInt8) : decv (l ++ [c]) = decv l * 10 + digv c := by rw [decv_append]; simp [decv]
/-- digits alone -/
def Digs (l : List UInt8) : Prop := ∀ c ∈ l, 48 ≤ c.toNat ∧ c.toNat ≤ 57
theorem Digs.take {l : List UInt8} (h : Digs l) (k : Nat) : Digs (l.take k) := fun c hc => h c (List.mem_of_mem_take hc)
theorem Digs.drop {l : List UInt8} (h : Digs l) (k : Nat) : Digs (l.drop k) := fun c hc => h c (List.mem_of_mem_drop hc)
theorem decv_lt {l : List UInt8} (h : Digs l) : decv l < 10 ^ l.length := by
  rw [← List.reverse_reverse l] at h ⊢
  generalize l.reverse = r at *
  induction r with
  | nil => simp [decv]
  | cons c r ih =>
    rw [List.reverse_cons] at h ⊢
    have h1 := ih (fun d hd => h d (by simp at hd ⊢; exact .inl hd))
    have h2 := h c (by simp)
    rw [decv_snoc, List.length_append, List.length_singleton, Nat.pow_succ]
    unfold digv
    omega
end Nm
end Go.Proofs.YteaaibpanocgaaaDoor
namespace Go.Proofs.YteaaibpanocgaaaDoor
namespace Nm
/-- the letter of a digit -/
def dch (d : Nat) : UInt8 := UInt8.ofNat (48 + d)
theorem dch_toNat {d : Nat} (h : d < 10) : (dch d).toNat = 48 + d := by
  unfold dch; rw [UInt8.toNat_ofNat']; exact Nat.mod_eq_of_lt (by omega)
theorem digv_dch {d : Nat} (h : d < 10) : digv (dch d) = d := by unfold digv; rw [dch_toNat h]; omega
/-- the numeral -/
def decS (x : Nat) : List UInt8 := if _h : x < 10 then [dch x] else decS (x / 10) ++ [dch (x % 10)]
  termination_by x
  decreasing_by omega
theorem decS_small {x : Nat} (h : x < 10) : decS x = [dch x] := by rw [decS]; rw [dif_pos h]
theorem decS_big {x : Nat} (h : ¬ x < 10) : decS x = decS (x / 10) ++ [dch (x % 10)] := by rw [decS]; rw [dif_neg h]
theorem decv_decS (x : Nat) : decv (decS x) = x := by
  induction x using Nat.strongRecOn with
  | ind x ih =>
    by_cases h : x < 10
    · rw [decS_small h, ← List.nil_append [dch x], decv_snoc, digv_dch h, decv_nil]; omega
    · rw [decS_big h, decv_snoc, ih _ (by omega), digv_dch (Nat.mod_lt _ (by decide))]; omega
theorem decS_digs (x : Nat) : Digs (decS x) := by
  induction x using Nat.strongRecOn with
  | ind x ih =>
    by_cases h : x < 10
    · rw [decS_small h]; intro c hc; rw [List.mem_singleton] at hc; subst hc; rw [dch_toNat h]; omega
    · rw [decS_big h]
      intro c hc
      rcases List.mem_append.1 hc with hc | hc
      · exact ih _ (by omega) c hc
      · rw [List.mem_singleton] at hc; subst hc; rw [dch_toNat (Nat.mod_lt _ (by decide))]; have := Nat.mod_lt x (show 10 > 0 by decide); omega
theorem decS_ne (x : Nat) : decS x ≠ [] := by
  by_cases h : x < 10
  · rw [decS_small h]; simp
  · rw [decS_big h]; simp
/-- digits alone, without needless zeros -/
def Whl (l : List UInt8) : Prop := Digs l ∧ ∃ c r, l = c :: r ∧ (r ≠ [] → c.toNat ≠ 48)
theorem decS_whl (x : Nat) : Whl (decS x) := by
  refine ⟨decS_digs x, ?_⟩
  induction x using Nat.strongRecOn with
  | ind x ih =>
    by_cases h : x < 10
    · exact ⟨_, [], decS_small h, fun h => absurd rfl h⟩
    · obtain ⟨c, r, h1, h2⟩ := ih (x / 10) (by omega)
      refine ⟨c, r ++ [dch (x % 10)], by rw [decS_big h, h1]; rfl, fun _ hc => ?_⟩
      by_cases hr : r = []
      · subst hr
        have hv := decv_decS (x / 10)
        rw [h1, ← List.nil_append [c], decv_snoc, decv_nil] at hv
        unfold digv at hv
        omega
      · exact h2 hr hc
theorem digv_lt {c : UInt8} (hc : 48 ≤ c.toNat ∧ c.toNat ≤ 57) : digv c < 10 := by unfold digv; omega
theorem dch_digv {c : UInt8} (hc : 48 ≤ c.toNat ∧ c.toNat ≤ 57) : dch (digv c) = c := by
  apply UInt8.toNat_inj.1; rw [dch_toNat (digv_lt hc)]; unfold digv; omega
theorem whl_pos {l : List UInt8} (h : Whl l) (hl : 1 < l.length) : 10 ^ (l.length - 1) ≤ decv l := by
  obtain ⟨hd, c, r, rfl, hc⟩ := h
  have hr : r ≠ [] := by intro h; subst h; simp at hl
  have := hc hr
  have h2 := hd c (by simp)
  rw [← List.singleton_append, decv_append, List.length_append]
  simp only [List.length_singleton]
  have h3 : 1 ≤ decv [c] := by rw [← List.nil_append [c], decv_snoc, decv_nil]; unfold digv; omega
  have h4 := Nat.mul_le_mul_right (10 ^ r.length) h3
  rw [show 1 + r.length - 1 = r.length by omega]
  omega
/-- the numeral is the only one -/
theorem whl_eq : ∀ (x : Nat) (l : List UInt8), Whl l → decv l = x → l = decS x := by
  intro x
  induction x using Nat.strongRecOn with
  | ind x ih =>
    intro l hw hv
    obtain ⟨hd, c, r, hl, hc⟩ := id hw
    by_cases hr : r = []
    · subst hr; subst hl
      have h2 := hd c (by simp)
      rw [← List.nil_append [c], decv_snoc, decv_nil] at hv
      have h3 := digv_lt h2
      rw [decS_small (by omega)]
      rw [show x = digv c by omega, dch_digv h2]
    · have hne : l ≠ [] := by rw [hl]; simp
      have hlen : 1 < l.length := by rw [hl]; have := List.length_pos_iff.2 hr; simp; omega
      have hp := whl_pos hw hlen
      have h10 : 10 ≤ decv l := by
        refine Nat.le_trans ?_ hp
        have := Nat.pow_le_pow_right (show 0 < 10 by decide) (show 1 ≤ l.length - 1 by omega)
        simpa using this
      have e := List.dropLast_concat_getLast hne
      have hdl : Whl l.dropLast := by
        refine ⟨fun c hc => hd c (List.dropLast_subset _ hc), c, r.dropLast, by rw [hl, List.dropLast_cons_of_ne_nil hr], fun _ => hc hr⟩
      have hg := hd (l.getLast hne) (List.getLast_mem hne)
      have hv2 := hv
      rw [← e, decv_snoc] at hv2
      have h9 := digv_lt hg
      have h5 := ih (x / 10) (by omega) l.dropLast hdl (by omega)
      rw [decS_big (by omega), ← h5, show x % 10 = digv (l.getLast hne) by omega, dch_digv hg, e]
theorem decS_length {x k : Nat} (h : x < 10 ^ k) (hk : 1 ≤ k) : (decS x).length ≤ k := by
  by_cases h1 : 1 < (decS x).length
  · have := whl_pos (decS_whl x) h1
    rw [decv_decS] at this
    have h2 := (Nat.pow_lt_pow_iff_right (show 1 < 10 by decide)).1 (Nat.lt_of_le_of_lt this h)
    omega
  · omega
theorem lt_of_decS {x k : Nat} (h : (decS x).length ≤ k) : x < 10 ^ k := by
  have := decv_lt (decS_digs x)
  rw [decv_decS] at this
  exact Nat.lt_of_lt_of_le this (Nat.pow_le_pow_right (by decide) h)
end Nm
end Go.Proofs.YteaaibpanocgaaaDoor
namespace Go.Proofs.YteaaibpanocgaaaDoor
namespace Tx
open _root_.Go.Proofs.YteaaibpanocgaaaDoor.Nm
/-- l cut at each byte c -/
def cutL (c : UInt8) : List UInt8 → List (List UInt8)
  | [] => [[]]
  | b :: r => if b = c then [] :: cutL c r else
    match cutL c r with
    | [] => [[b]]
    | x :: y => (b :: x) :: y
theorem cutL_ne (c : UInt8) : ∀ l, cutL c l ≠ []
  | [] => by simp [cutL]
  | b :: r => by
    unfold cutL
    by_cases h : b = c
    · rw [if_pos h]; simp
    · rw [if_neg h]
      cases cutL c r <;> simp
theorem cutL_none {c : UInt8} : ∀ {l : List UInt8}, c ∉ l → cutL c l = [l]
  | [], _ => rfl
  | b :: r, h => by
    have hb : b ≠ c := fun e => h (by simp [e])
    have ih := cutL_none (c := c) (l := r) (fun e => h (List.mem_cons_of_mem _ e))
    unfold cutL
    rw [if_neg hb, ih]
theorem cutL_app {c : UInt8} {r : List UInt8} : ∀ {x : List UInt8}, c ∉ x → cutL c (x ++ c :: r) = x :: cutL c r
  | [], _ => by show cutL c (c :: r) = _; rw [cutL, if_pos rfl]
  | b :: x, h => by
    have hb : b ≠ c := fun e => h (by simp [e])
    have ih := cutL_app (c := c) (r := r) (x := x) (fun e => h (List.mem_cons_of_mem _ e))
    show cutL c (b :: (x ++ c :: r)) = _
    rw [cutL, if_neg hb, ih]
def joinL (c : UInt8) : List (List UInt8) → List UInt8
  | [] => []
  | [x] => x
  | x :: y :: r => x ++ c :: joinL c (y :: r)
theorem mem_split {c : UInt8} : ∀ {l : List UInt8}, c ∈ l → ∃ x r, l = x ++ c :: r ∧ c ∉ x
  | [], h => by simp at h
  | b :: l, h => by
    by_cases e : b = c
    · exact ⟨[], l, by simp [e], by simp⟩
    · rcases List.mem_cons.1 h with h | h
      · exact absurd h.symm e
      · obtain ⟨x, r, h1, h2⟩ := mem_split h
        refine ⟨b :: x, r, by simp [h1], fun hm => ?_⟩
        rcases List.mem_cons.1 hm with e' | hm
        · exact e e'.symm
        · exact h2 hm
theorem index_at {c : UInt8} {r : List UInt8} : ∀ {x : List UInt8}, c ∉ x → Lib.index (x ++ c :: r) [c] = ((x.length : Nat) : Int)
  | [], _ => by show Lib.index (c :: r) [c] = _; rw [Lib.index]; simp [List.isPrefixOf]
  | b :: x, h => by
    have hb : b ≠ c := fun e => h (by simp [e])
    have ih := index_at (c := c) (r := r) (x := x) (fun e => h (List.mem_cons_of_mem _ e))
    have hp : ([c] : List UInt8).isPrefixOf (b :: (x ++ c :: r)) = false := by simp [List.isPrefixOf, Ne.symm hb]
    have hne : (((x.length : Nat) : Int) == -1) = false := by rw [beq_eq_false_iff_ne]; omega
    show Lib.index (b :: (x ++ c :: r)) [c] = _
    rw [Lib.index, hp, ih, hne]
    simp
theorem index_no {c : UInt8} : ∀ {x : List UInt8}, c ∉ x → Lib.index x [c] = -1
  | [], _ => by rw [Lib.index]; rfl
  | b :: x, h => by
    have hb : b ≠ c := fun e => h (by simp [e])
    have ih := index_no (c := c) (x := x) (fun e => h (List.mem_cons_of_mem _ e))
    have hp : ([c] : List UInt8).isPrefixOf (b :: x) = false := by simp [List.isPrefixOf, Ne.symm hb]
    rw [Lib.index, hp, ih]
    rfl
theorem splitK_cut (c : UInt8) : ∀ (n : Nat) (l : List UInt8), l.length ≤ n → Lib.splitK [c] 0 (Lib.count l [c]) l = cutL c l := by
  intro n
  induction n with
  | zero =>
    intro l hn
    have : l = [] := List.eq_nil_of_length_eq_zero (by omega)
    subst this
    rw [Lib.count_miss (index_no (by simp))]; rfl
  | succ n ih =>
    intro l hn
    by_cases h : c ∈ l
    · obtain ⟨x, r, rfl, hx⟩ := mem_split h
      have hi := index_at (r := r) hx
      have hd : (x ++ c :: r).drop (x.length + [c].length) = r := by simp
      have hne : (((x.length : Nat) : Int) == -1) = false := by rw [beq_eq_false_iff_ne]; omega
      have h2 := ih r (by simp at hn; omega)
      rw [Lib.count_hit (by simp) hi, hd, Nat.add_comm, Lib.splitK, hi, hne, cutL_app hx, Int.toNat_natCast, hd, h2]
      simp
    · rw [Lib.count_miss (index_no h), cutL_none h]; rfl
/-- what strings.Split gives at one byte -/
theorem split_one (s : ByteArray) (c : UInt8) : (Lib.splitB ⟨#[c]⟩ 0 (Lib.countB s ⟨#[c]⟩) s).map (·.data.toList) = cutL c s.data.toList := by
  rw [Lib.splitB_data]
  exact splitK_cut c _ _ (Nat.le_refl _)
/-- a numeral as strconv.Itoa writes it -/
def itoaS (v : Int) : List UInt8 := if v < 0 then 45 :: decS v.natAbs else decS v.toNat
theorem decDigits_is (u : Nat) : Lib.decDigits u = decS u := by
  induction u using Nat.strongRecOn with
  | ind u ih =>
    by_cases h : u < 10
    · rw [Lib.decDigits, dif_pos h, decS_small h]; rfl
    · rw [Lib.decDigits, dif_neg h, decS_big h, ih _ (by omega)]; rfl
theorem itoa_is (v : Int) : Lib.itoa v = itoaS v := by
  unfold Lib.itoa itoaS
  rw [decDigits_is, decDigits_is]
theorem itoaS_nat (n : Nat) : itoaS (n : Int) = decS n := by
  unfold itoaS
  rw [if_neg (by omega), Int.toNat_natCast]
theorem itoaS_neg {n : Nat} (h : 0 < n) : itoaS (-(n : Int)) = 45 :: decS n := by
  unfold itoaS
  rw [if_pos (by omega), Int.natAbs_neg, Int.natAbs_natCast]
theorem decFrom_digs : ∀ {l : List UInt8} {acc : Nat}, Digs l → Lib.decFrom acc l = some (acc * 10 ^ l.length + decv l)
  | [], acc, _ => by simp [Lib.decFrom, decv]
  | c :: l, acc, h => by
    have hc := h c (by simp)
    have hd : Lib.digitVal c = some (digv c) := by unfold Lib.digitVal digv; rw [if_pos hc]
    have ih := decFrom_digs (l := l) (acc := acc * 10 + digv c) (fun d hd => h d (List.mem_cons_of_mem _ hd))
    have e : decv (c :: l) = digv c * 10 ^ l.length + decv l := by
      have := decv_foldl l (0 * 10 + digv c)
      show List.foldl _ (0 * 10 + digv c) l = _
      rw [this]; simp
    rw [Lib.decFrom, hd]
    show Lib.decFrom (acc * 10 + digv c) l = _
    rw [ih, e, List.length_cons, Nat.pow_succ, Nat.add_mul, Nat.mul_assoc, Nat.mul_comm 10]
    congr 1; omega
theorem decNat_digs {l : List UInt8} (h : Digs l) (hn : l ≠ []) : Lib.decNat l = some (decv l) := by
  unfold Lib.decNat
  have : l.isEmpty = false := by cases l <;> simp_all
  rw [this, decFrom_digs h]; simp
theorem digs_first {c : UInt8} {l : List UInt8} (h : Digs (c :: l)) : (c == 45) = false ∧ (c == 43) = false := by
  have hc := h c (by simp)
  constructor
  · rw [beq_eq_false_iff_ne]; intro e; subst e; exact absurd hc.1 (by decide)
  · rw [beq_eq_false_iff_ne]; intro e; subst e; exact absurd hc.1 (by decide)
theorem atoi_digs {l : List UInt8} (h : Digs l) (hn : l ≠ []) : Lib.atoi l = some ((decv l : Nat) : Int) := by
  cases l with
  | nil => exact absurd rfl hn
  | cons c r =>
    have h1 := digs_first h
    unfold Lib.atoi
    simp only [h1.1, h1.2, decNat_digs h hn]
    rfl
theorem atoi_minus {l : List UInt8} (h : Digs l) (hn : l ≠ []) : Lib.atoi (45 :: l) = some (-((decv l : Nat) : Int)) := by
  unfold Lib.atoi
  simp only [show ((45 : UInt8) == 45) = true from rfl, decNat_digs h hn]
  rfl
theorem itoaS_length {v : Int} (h : v.natAbs < 10 ^ 13) : (itoaS v).length ≤ 14 := by
  unfold itoaS
  split
  · have := decS_length h (by decide); simp; omega
  · have := decS_length (x := v.toNat) (k := 13) (by omega) (by decide); omega
theorem atoiAll_itoa {v : Int} (h : v.natAbs < 10 ^ 13) : Lib.atoiAll (itoaS v) = .ok v := by
  rw [Lib.atoiAll_short _ (by have := itoaS_length h; omega)]
  rcases Int.le_total 0 v with hv | hv
  · obtain ⟨n, rfl⟩ : ∃ n : Nat, v = n := ⟨v.toNat, by omega⟩
    rw [itoaS_nat, atoi_digs (decS_digs n) (decS_ne n), decv_decS]; rfl
  · by_cases h0 : v = 0
    · subst h0
      rw [show itoaS 0 = decS 0 from itoaS_nat 0, atoi_digs (decS_digs 0) (decS_ne 0), decv_decS]; rfl
    · obtain ⟨n, rfl⟩ : ∃ n : Nat, v = -(n : Int) := ⟨v.natAbs, by omega⟩
      rw [itoaS_neg (by omega), atoi_minus (decS_digs n) (decS_ne n), decv_decS]; rfl
/-- the first byte is '0' -/
def zeroF (l : List UInt8) : Bool := match l with | [] => false | c :: _ => decide ((c.toNat : Int) = 48)
def digF (c : UInt8) : Bool := decide (48 ≤ (c.toNat : Int) ∧ (c.toNat : Int) ≤ 57)
/-- digits alone, at most so many, and no needless 0 -/
def digO (most : Nat) (l : List UInt8) : Bool := !l.isEmpty && decide (l.length ≤ most) && !(decide (1 < l.length) && zeroF l) && l.all digF
theorem digF_iff {l : List UInt8} : l.all digF = true ↔ Digs l := by
  rw [List.all_eq_true]
  constructor
  · intro h c hc
    have := of_decide_eq_true (h c hc)
    omega
  · intro h c hc
    have := h c hc
    exact decide_eq_true (by omega)
theorem digO_iff {most : Nat} {l : List UInt8} : digO most l = true ↔ Whl l ∧ l.length ≤ most := by
  unfold digO Whl
  rw [Bool.and_eq_true, Bool.and_eq_true, Bool.and_eq_true, digF_iff, decide_eq_true_eq]
  cases l with
  | nil => simp
  | cons c r =>
    simp only [List.isEmpty_cons, Bool.not_false, true_and, Bool.not_eq_true', Bool.and_eq_false_iff, decide_eq_false_iff_not, zeroF, List.length_cons]
    constructor
    · rintro ⟨⟨h1, h2⟩, h3⟩
      refine ⟨⟨h3, c, r, rfl, fun hr => ?_⟩, h1⟩
      rcases h2 with h2 | h2
      · exact absurd (List.eq_nil_of_length_eq_zero (by omega)) hr
      · omega
    · rintro ⟨⟨h3, c', r', he, h2⟩, h1⟩
      injection he with e1 e2
      subst e1; subst e2
      refine ⟨⟨h1, ?_⟩, h3⟩
      by_cases hr : r = []
      · left; simp [hr]
      · right; have := h2 hr; omega
/-- a number that the reference reads: 'most' digits -/
def natO (most : Nat) (l : List UInt8) : Option Int := if digO most l = true then some ((decv l : Nat) : Int) else none
theorem natO_iff {l : List UInt8} {v : Int} : natO 13 l = some v ↔ ∃ n : Nat, v = n ∧ l = decS n ∧ n < 10 ^ 13 := by
  unfold natO
  constructor
  · intro h
    by_cases hd : digO 13 l = true
    · rw [if_pos hd] at h
      injection h with h
      obtain ⟨h1, h2⟩ := digO_iff.1 hd
      have e := whl_eq _ _ h1 rfl
      exact ⟨decv l, h.symm, e, lt_of_decS (by rw [← e]; exact h2)⟩
    · rw [if_neg hd] at h; cases h
  · rintro ⟨n, rfl, rfl, h⟩
    rw [if_pos (digO_iff.2 ⟨decS_whl n, decS_length h (by decide)⟩), decv_decS]
end Tx
end Go.Proofs.YteaaibpanocgaaaDoor
namespace Go.Proofs.YteaaibpanocgaaaDoor
namespace Tx
open _root_.Go.Proofs.YteaaibpanocgaaaDoor.Nm
def bm (l : List UInt8) : ByteArray := ⟨l.toArray⟩
theorem bm_data (s : ByteArray) : bm s.data.toList = s := by
  obtain ⟨⟨l⟩⟩ := s; rfl
/-- the words of kinds -/
def kindsL : List (List UInt8) := [[], [114, 97, 116, 101], [99, 111, 117, 110, 116], [115, 117, 109]]
def kindW (k : Int) : List UInt8 := kindsL.getD k.toNat []
def kindI (l : List UInt8) : Int := if l = [] then 0 else if l = [114, 97, 116, 101] then 1 else if l = [99, 111, 117, 110, 116] then 2 else if l = [115, 117, 109] then 3 else -1
def wordsM (m : Met) : List (List UInt8) := [m.name.data.toList, kindW m.kind, m.event.data.toList, itoaS m.len, itoaS m.bef, itoaS m.cap]
/-- a line, its end with it -/
def lineM (m : Met) : List UInt8 := joinL 32 (wordsM m) ++ [10]
def textM (l : List Met) : List UInt8 := l.flatMap lineM
def readM6 (a k e x y z : List UInt8) : Option Met :=
  if wordsB a = true ∧ wordsB e = true ∧ 0 < kindI k then
    (natO 13 x).bind fun p => (natO 13 y).bind fun q => (natO 13 z).bind fun r => some ⟨bm a, kindI k, bm e, p, q, r⟩
  else none
def readMW : List (List UInt8) → Option Met
  | [a, k, e, x, y, z] => readM6 a k e x y z
  | _ => none
def readM (l : List UInt8) : Option Met := readMW (cutL 32 l)
/-- lines behind line i: what they say, or the line that is wrong -/
def rdLs : Nat → List (List UInt8) → List Met ⊕ Nat
  | _, [] => .inl []
  | i, [p] => if p = [] then .inl [] else .inr i
  | i, p :: q :: r => match readM p with
    | none => .inr i
    | some m => match rdLs (i + 1) (q :: r) with
      | .inl l => .inl (m :: l)
      | .inr j => .inr j
/-- what Check lets through -/
structure RightM (m : Met) : Prop where
  name : nameB m.name.data.toList = true
  kind : 1 ≤ m.kind ∧ m.kind ≤ 3
  event : nameB m.event.data.toList = true
  len : 0 ≤ m.len ∧ m.len ≤ 100000000
  bef : 0 ≤ m.bef ∧ m.bef ≤ 100000000
  cap : 0 ≤ m.cap ∧ m.cap ≤ 1000000000000
theorem within_m {n a b : Int} : withinB n a b = true ↔ a ≤ n ∧ n ≤ b := by unfold withinB; rw [decide_eq_true_eq]
theorem rightM_of {m : Met} (h : checkM m = 0) : RightM m := by
  unfold checkM at h
  by_cases h1 : nameB m.name.data.toList = false
  · rw [if_pos h1] at h; cases h
  rw [if_neg h1] at h
  by_cases h2 : withinB m.kind 1 3 = false
  · rw [if_pos h2] at h; cases h
  rw [if_neg h2] at h
  by_cases h3 : nameB m.event.data.toList = false
  · rw [if_pos h3] at h; cases h
  rw [if_neg h3] at h
  by_cases h4 : rangeM m = false
  · rw [if_pos h4] at h; cases h
  have h4' : rangeM m = true := by simpa using h4
  unfold rangeM at h4'
  rw [Bool.and_eq_true, Bool.and_eq_true, within_m, within_m, within_m] at h4'
  obtain ⟨⟨r1, r2⟩, r3⟩ := h4'
  exact ⟨by simpa using h1, within_m.1 (by simpa using h2), by simpa using h3, ⟨by omega, r1.2⟩, r2, r3⟩
theorem name_wordsM {l : List UInt8} (h : nameB l = true) : wordsB l = true ∧ l.all wordC = true ∧ l.length ≤ 40 := by
  unfold nameB at h
  rw [Bool.and_eq_true, Bool.and_eq_true, decide_eq_true_eq] at h
  refine ⟨?_, h.2, h.1.1.2⟩
  unfold wordsB
  rw [h.2]
  cases l with
  | nil => exact absurd h.1.1.1 (by simp)
  | cons _ _ => rfl
/-- the names stand in order -/
def ordB (p : Option ByteArray) (s : ByteArray) : Bool := match p with
  | none => true
  | some q => Op.bytesLess q.toList s.toList
def chkLs : Option ByteArray → List Met → Int
  | _, [] => 0
  | p, m :: r => if checkM m ≠ 0 then checkM m else if ordB p m.name = false then 8 else chkLs (some m.name) r
/-- what is wrong with metrics -/
def chkM (l : List Met) : Int := if 50 < l.length then 2 else chkLs none l
theorem chkLs_all : ∀ {l : List Met} {p : Option ByteArray}, chkLs p l = 0 → ∀ m ∈ l, checkM m = 0
  | [], _, _, m, h => by simp at h
  | x :: r, p, h, m, hm => by
    unfold chkLs at h
    by_cases hc : checkM x ≠ 0
    · rw [if_pos hc] at h; exact absurd h hc
    · rw [if_neg hc] at h
      by_cases ho : ordB p x.name = false
      · rw [if_pos ho] at h; cases h
      · rw [if_neg ho] at h
        rcases List.mem_cons.1 hm with rfl | hm
        · omega
        · exact chkLs_all h m hm
theorem chkM_all {l : List Met} (h : chkM l = 0) : l.length ≤ 50 ∧ ∀ m ∈ l, RightM m := by
  unfold chkM at h
  by_cases hl : 50 < l.length
  · rw [if_pos hl] at h; cases h
  · rw [if_neg hl] at h
    exact ⟨by omega, fun m hm => rightM_of (chkLs_all h m hm)⟩
/-- Read's answer: the metrics, the line that is wrong, the fault -/
def rdT (t : List UInt8) : List Met × Int × Int := match rdLs 1 (cutL 10 t) with
  | .inr i => ([], (i : Int), 10)
  | .inl l => if chkM l = 0 then (l, 0, 0) else ([], 0, chkM l)
end Tx
end Go.Proofs.YteaaibpanocgaaaDoor
namespace Go.Proofs.YteaaibpanocgaaaDoor
namespace Tx
open _root_.Go.Proofs.YteaaibpanocgaaaDoor.Nm
def cut1 (c : UInt8) : List UInt8 → List UInt8 × Option (List UInt8)
  | [] => ([], none)
  | b :: r => if b = c then ([], some r) else (b :: (cut1 c r).1, (cut1 c r).2)
theorem cut1_none {c : UInt8} : ∀ {l : List UInt8}, c ∉ l → cut1 c l = (l, none)
  | [], _ => rfl
  | b :: r, h => by
    have hb : b ≠ c := fun e => h (by simp [e])
    rw [cut1, if_neg hb, cut1_none (l := r) (fun e => h (List.mem_cons_of_mem _ e))]
theorem cut1_app {c : UInt8} {r : List UInt8} : ∀ {x : List UInt8}, c ∉ x → cut1 c (x ++ c :: r) = (x, some r)
  | [], _ => by show cut1 c (c :: r) = _; rw [cut1, if_pos rfl]
  | b :: x, h => by
    have hb : b ≠ c := fun e => h (by simp [e])
    show cut1 c (b :: (x ++ c :: r)) = _
    rw [cut1, if_neg hb, cut1_app (x := x) (fun e => h (List.mem_cons_of_mem _ e))]
end Tx
end Go.Proofs.YteaaibpanocgaaaDoor
namespace Go.Proofs.YteaaibpanocgaaaDoor
namespace Tx
open _root_.Go.Proofs.YteaaibpanocgaaaDoor.Nm
/-- metrics ahead of what the other lines say -/
def apM (a : List Met) : List Met ⊕ Nat → List Met ⊕ Nat
  | .inl l => .inl (a ++ l)
  | .inr i => .inr i
theorem apM_nil (x : List Met ⊕ Nat) : apM [] x = x := by cases x <;> rfl
theorem apM_more (a : List Met) (m : Met) (x : List Met ⊕ Nat) : apM a (apM [m] x) = apM (a ++ [m]) x := by
  cases x with
  | inl l => show Sum.inl (a ++ ([m] ++ l)) = Sum.inl (a ++ [m] ++ l); rw [List.append_assoc]
  | inr i => rfl
theorem cut1_cutL {c : UInt8} {t l r : List UInt8} (h : cut1 c t = (l, some r)) : cutL c t = l :: cutL c r := by
  by_cases hm : c ∈ t
  · obtain ⟨x, y, rfl, hx⟩ := mem_split hm
    rw [cut1_app hx] at h
    injection h with h1 h2
    injection h2 with h2
    subst h1; subst h2
    exact cutL_app hx
  · rw [cut1_none hm] at h; injection h with _ h2; cases h2
theorem cut1_last {c : UInt8} {t l : List UInt8} (h : cut1 c t = (l, none)) : l = t ∧ cutL c t = [t] := by
  by_cases hm : c ∈ t
  · obtain ⟨x, y, rfl, hx⟩ := mem_split hm
    rw [cut1_app hx] at h; injection h with _ h2; cases h2
  · rw [cut1_none hm] at h; injection h with h1 _
    exact ⟨h1.symm, cutL_none hm⟩
theorem cut1_size {c : UInt8} {t l : List UInt8} {r : Option (List UInt8)} (h : cut1 c t = (l, r)) : l.length ≤ t.length ∧ ∀ q, r = some q → q.length < t.length := by
  by_cases hm : c ∈ t
  · obtain ⟨x, y, rfl, hx⟩ := mem_split hm
    rw [cut1_app hx] at h
    injection h with h1 h2
    subst h1; subst h2
    refine ⟨by simp, fun q hq => ?_⟩
    injection hq with hq
    subst hq
    simp; omega
  · rw [cut1_none hm] at h; injection h with h1 h2
    subst h1; subst h2
    exact ⟨Nat.le_refl _, fun q hq => by cases hq⟩
theorem rdLs_end (i : Nat) : rdLs i (cutL 10 []) = .inl [] := by
  show rdLs i [[]] = _
  unfold rdLs; rw [if_pos rfl]
theorem rdLs_last {t l : List UInt8} {i : Nat} (ht : t ≠ []) (h : cut1 10 t = (l, none)) : rdLs i (cutL 10 t) = .inr i := by
  rw [(cut1_last h).2]
  unfold rdLs; rw [if_neg ht]
theorem rdLs_bad {t l r : List UInt8} {i : Nat} (h : cut1 10 t = (l, some r)) (hm : readM l = none) : rdLs i (cutL 10 t) = .inr i := by
  rw [cut1_cutL h]
  cases hc : cutL 10 r with
  | nil => exact absurd hc (cutL_ne _ _)
  | cons q z => unfold rdLs; rw [hm]
theorem rdLs_more {t l r : List UInt8} {i : Nat} {m : Met} (h : cut1 10 t = (l, some r)) (hm : readM l = some m) : rdLs i (cutL 10 t) = apM [m] (rdLs (i + 1) (cutL 10 r)) := by
  rw [cut1_cutL h]
  cases hc : cutL 10 r with
  | nil => exact absurd hc (cutL_ne _ _)
  | cons q z =>
    conv => lhs; unfold rdLs
    rw [hm]
    simp only
    cases rdLs (i + 1) (q :: z) <;> rfl
theorem rdT_line {t : List UInt8} {i : Nat} (h : rdLs 1 (cutL 10 t) = .inr i) : rdT t = ([], (i : Int), 10) := by unfold rdT; rw [h]
theorem rdT_all {t : List UInt8} {l : List Met} (h : rdLs 1 (cutL 10 t) = .inl l) : rdT t = if chkM l = 0 then (l, 0, 0) else ([], 0, chkM l) := by unfold rdT; rw [h]
/-- the name ahead -/
def preN (l : List Met) (k : Nat) : Option ByteArray := if k = 0 then none else (l[k - 1]?).map (·.name)
theorem preN_zero (l : List Met) : preN l 0 = none := rfl
theorem preN_succ {l : List Met} {k : Nat} {m : Met} (h : l[k]? = some m) : preN l (k + 1) = some m.name := by
  unfold preN
  rw [if_neg (by omega), Nat.add_sub_cancel, h]; rfl
theorem chk_start {l : List Met} (h : ¬ 50 < l.length) : chkM l = chkLs (preN l 0) (l.drop 0) := by
  unfold chkM; rw [if_neg h]; rfl
theorem chk_step {l : List Met} {k : Nat} {m : Met} (h : l[k]? = some m) : chkLs (preN l k) (l.drop k) = if checkM m ≠ 0 then checkM m else if ordB (preN l k) m.name = false then 8 else chkLs (preN l (k + 1)) (l.drop (k + 1)) := by
  obtain ⟨hk, rfl⟩ := List.getElem?_eq_some_iff.1 h
  rw [List.drop_eq_getElem_cons hk, preN_succ h]
  rfl
theorem chk_end {l : List Met} {k : Nat} (h : l.length ≤ k) : chkLs (preN l k) (l.drop k) = 0 := by
  rw [List.drop_eq_nil_of_le h]
  cases preN l k <;> rfl
/-- a name that comes behind, a name that does not -/
theorem ord_prev {l : List Met} {k : Nat} {p : Met} (hk : k ≠ 0) (h : l[k - 1]? = some p) (s : ByteArray) : ordB (preN l k) s = Op.bytesLess p.name.toList s.toList := by
  unfold preN
  rw [if_neg hk, h]; rfl
theorem kindW_len {k : Int} (h : 1 ≤ k ∧ k ≤ 3) : (kindW k).length ≤ 5 := by
  have hk : k = 1 ∨ k = 2 ∨ k = 3 := by omega
  rcases hk with rfl | rfl | rfl <;> decide
theorem itoa13 {v : Int} (h : 0 ≤ v ∧ v ≤ 1000000000000) : (itoaS v).length ≤ 14 := itoaS_length (by omega)
theorem words_len {m : Met} (h : RightM m) : ∀ x ∈ wordsM m, x.length ≤ 40 := by
  have h1 := (name_wordsM h.name).2.2
  have h2 := (name_wordsM h.event).2.2
  have h3 := kindW_len h.kind
  have h4 := itoa13 (v := m.len) (by have := h.len; omega)
  have h5 := itoa13 (v := m.bef) (by have := h.bef; omega)
  have h6 := itoa13 h.cap
  intro x hx
  unfold wordsM at hx
  simp only [List.mem_cons, List.not_mem_nil, or_false] at hx
  rcases hx with rfl | rfl | rfl | rfl | rfl | rfl <;> omega
theorem joinL_bd {c : UInt8} {k : Nat} : ∀ {l : List (List UInt8)}, (∀ x ∈ l, x.length ≤ k) → (joinL c l).length ≤ l.length * (k + 1)
  | [], _ => Nat.zero_le _
  | [x], h => by have := h x (by simp); simp [joinL]; omega
  | x :: y :: r, h => by
    have h1 := h x (by simp)
    have h2 := joinL_bd (c := c) (l := y :: r) (k := k) (fun z hz => h z (List.mem_cons_of_mem _ hz))
    have e : joinL c (x :: y :: r) = x ++ c :: joinL c (y :: r) := rfl
    rw [e, List.length_append, List.length_cons, List.length_cons, Nat.succ_mul]
    omega
theorem line_len {m : Met} (h : RightM m) : (lineM m).length ≤ 300 := by
  have h2 := joinL_bd (c := 32) (words_len h)
  have h3 : (wordsM m).length = 6 := rfl
  unfold lineM
  rw [List.length_append, List.length_singleton]
  omega
theorem text_len : ∀ {l : List Met}, (∀ m ∈ l, RightM m) → (textM l).length ≤ l.length * 300
  | [], _ => Nat.zero_le _
  | m :: r, h => by
    have h1 := line_len (h m (by simp))
    have h2 := text_len (l := r) (fun x hx => h x (by simp [hx]))
    show (lineM m ++ textM r).length ≤ (r.length + 1) * 300
    rw [List.length_append, Nat.succ_mul]
    omega
theorem text_small {l : List Met} (h : chkM l = 0) : (textM l).length ≤ 15000 := by
  have h1 := chkM_all h
  have h2 := text_len h1.2
  have h3 : l.length * 300 ≤ 50 * 300 := Nat.mul_le_mul_right _ h1.1
  omega
theorem textM_take {l : List Met} {k : Nat} {m : Met} (h : l[k]? = some m) : textM (l.take (k + 1)) = textM (l.take k) ++ lineM m := by
  obtain ⟨hk, rfl⟩ := List.getElem?_eq_some_iff.1 h
  unfold textM
  rw [List.take_succ_eq_append_getElem hk, List.flatMap_append]
  simp
/-- what a text of metrics is, and the fault -/
def txM (l : List Met) : List UInt8 := if chkM l = 0 then textM l else []
end Tx
end Go.Proofs.YteaaibpanocgaaaDoor
