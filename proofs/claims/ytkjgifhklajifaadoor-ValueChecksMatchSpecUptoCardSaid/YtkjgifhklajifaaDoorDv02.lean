/- Decimal numerals: plain mathematics. The numeral of a number: plain mathematics. Plain: texts cut at a byte; numerals of at most 13 digits, read and written. No program stands in it. Plain: the text of a value, as it is written; texts quoted; numbers of thousandths. No program stands in it. What a region that draws its order holds on to, where it ends in a store into a block of the call's own. No program stands in it. Rows: blocks of which all cells are known; a whole row read, and written. No program stands in it. -/
import Derived.Test.YtkjgifhklajifaaDoorDv01
import Derived.Lib.SplitLaws
import Derived.Lib.AtoiTie
import Derived.Lib.ItoaNum
import Derived.Lib.TrimByte
import Derived.Lib.Repeat
import Derived.Lib.ReplaceLaws
import Derived.Test.YtkjgifhklajifaaDoorDv00
import Derived.Deep.RegionHeld3
import Derived.Deep.WholeRow
import Derived.Laws.CopyOwn
namespace Go.Proofs.YtkjgifhklajifaaDoor
namespace Nm
def digv (c : UInt8) : Nat := c.toNat - 48
/-- what digits mean -/
def decv (l : List UInt8) : Nat := l.foldl (fun a c => a * 10 + digv c) 0
theorem decv_nil : decv [] = 0 := rfl
theorem decv_foldl (m : List UInt8) : ∀ a, m.foldl (fun a c => a * 10 + digv c) a = a * 10 ^ m.length + decv m := by
  induction m with
  | nil => intro a; simp [decv]
  | cons c m ih =>
    intro a
    unfold decv
    simp only [List.foldl_cons, List.length_cons]
    rw [ih, ih (0 * 10 + digv c), Nat.pow_succ, Nat.zero_mul, Nat.zero_add, Nat.add_mul, Nat.mul_assoc, Nat.mul_comm 10]
    omega
theorem decv_append (l m : List UInt8) : decv (l ++ m) = decv l * 10 ^ m.length + decv m := by
  unfold decv; rw [List.foldl_append]; exact decv_foldl m _
theorem decv_snoc (l : List UInt8) (c : UInt8) : decv (l ++ [c]) = decv l * 10 + digv c := by rw [decv_append]; simp [decv]
/-- digits alone -/
def Digs (l : List UInt8) : Prop := ∀ c ∈ l, 48 ≤ c.toNat ∧ c.toNat ≤ 57
theorem Digs.take {l : List UInt8} (h : Digs l) (k : Nat) : Digs (l.take k) := fun c hc => h c (List.mem_of_mem_take hc)
theorem Digs.drop {l : List UInt8} (h : Digs l) (k : Nat) : Digs (l.drop k) := fun c hc => h c (List.mem_of_mem_drop hc)
end Nm
end Go.Proofs.YtkjgifhklajifaaDoor
namespace Go.Proofs.YtkjgifhklajifaaDoor
namespace Nm
/-- the letter of a digit -/
def dch (d : Nat) : UInt8 := UInt8.ofNat (48 + d)
theorem dch_toNat {d : Nat} (h : d < 10) : (dch d).toNat = 48 + d := by
  unfold dch; rw [UInt8.toNat_ofNat']; exact Nat.mod_eq_of_lt (by omega)
theorem digv_dch {d : Nat} (h : d < 10) : digv (dch d) = d := by unfold digv; rw [dch_toNat h]; omega
/-- the numeral -/
def decS (x : Nat) : List UInt8 := if _h : x < 10 then [dch x] else decS (x / 10) ++ [dch (x % 10)]
  termination_by x
  decreasing_by omega
theorem decS_small {x : Nat} (h : x < 10) : decS x = [dch x] := by rw [decS]; rw [dif_pos h]
theorem decS_big {x : Nat} (h : ¬ x < 10) : decS x = decS (x / 10) ++ [dch (x % 10)] := by rw [decS]; rw [dif_neg h]
theorem decv_decS (x : Nat) : decv (decS x) = x := by
  induction x using Nat.strongRecOn with
  | ind x ih =>
    by_cases h : x < 10
    · rw [decS_small h, ← List.nil_append [dch x], decv_snoc, digv_dch h, decv_nil]; omega
    · rw [decS_big h, decv_snoc, ih _ (by omega), digv_dch (Nat.mod_lt _ (by decide))]; omega
theorem decS_digs (x : Nat) : Digs (decS x) := by
  induction x using Nat.strongRecOn with
  | ind x ih =>
    by_cases h : x < 10
    · rw [decS_small h]; intro c hc; rw [List.mem_singleton] at hc; subst hc; rw [dch_toNat h]; omega
    · rw [decS_big h]
      intro c hc
      rcases List.mem_append.1 hc with hc | hc
      · exact ih _ (by omega) c hc
      · rw [List.mem_singleton] at hc; subst hc; rw [dch_toNat (Nat.mod_lt _ (by decide))]; have := Nat.mod_lt x (show 10 > 0 by decide); omega
/-- digits alone, without needless zeros -/
def Whl (l : List UInt8) : Prop := Digs l ∧ ∃ c r, l = c :: r ∧ (r ≠ [] → c.toNat ≠ 48)
theorem decS_whl (x : Nat) : Whl (decS x) := by
  refine ⟨decS_digs x, ?_⟩
  induction x using Nat.strongRecOn with
  | ind x ih =>
    by_cases h : x < 10
    · exact ⟨_, [], decS_small h, fun h => absurd rfl h⟩
    · obtain ⟨c, r, h1, h2⟩ := ih (x / 10) (by omega)
      refine ⟨c, r ++ [dch (x % 10)], by rw [decS_big h, h1]; rfl, fun _ hc => ?_⟩
      by_cases hr : r = []
      · subst hr
        have hv := decv_decS (x / 10)
        rw [h1, ← List.nil_append [c], decv_snoc, decv_nil] at hv
        unfold digv at hv
        omega
      · exact h2 hr hc
theorem whl_pos {l : List UInt8} (h : Whl l) (hl : 1 < l.length) : 10 ^ (l.length - 1) ≤ decv l := by
  obtain ⟨hd, c, r, rfl, hc⟩ := h
  have hr : r ≠ [] := by intro h; subst h; simp at hl
  have := hc hr
  have h2 := hd c (by simp)
  rw [← List.singleton_append, decv_append, List.length_append]
  simp only [List.length_singleton]
  have h3 : 1 ≤ decv [c] := by rw [← List.nil_append [c], decv_snoc, decv_nil]; unfold digv; omega
  have h4 := Nat.mul_le_mul_right (10 ^ r.length) h3
  rw [show 1 + r.length - 1 = r.length by omega]
  omega
theorem decS_length {x k : Nat} (h : x < 10 ^ k) (hk : 1 ≤ k) : (decS x).length ≤ k := by
  by_cases h1 : 1 < (decS x).length
  · have := whl_pos (decS_whl x) h1
    rw [decv_decS] at this
    have h2 := (Nat.pow_lt_pow_iff_right (show 1 < 10 by decide)).1 (Nat.lt_of_le_of_lt this h)
    omega
  · omega
end Nm
end Go.Proofs.YtkjgifhklajifaaDoor
namespace Go.Proofs.YtkjgifhklajifaaDoor
namespace Tx
open _root_.Go.Proofs.YtkjgifhklajifaaDoor.Nm
theorem mem_split {c : UInt8} : ∀ {l : List UInt8}, c ∈ l → ∃ x r, l = x ++ c :: r ∧ c ∉ x
  | [], h => by simp at h
  | b :: l, h => by
    by_cases e : b = c
    · exact ⟨[], l, by simp [e], by simp⟩
    · rcases List.mem_cons.1 h with h | h
      · exact absurd h.symm e
      · obtain ⟨x, r, h1, h2⟩ := mem_split h
        refine ⟨b :: x, r, by simp [h1], fun hm => ?_⟩
        rcases List.mem_cons.1 hm with e' | hm
        · exact e e'.symm
        · exact h2 hm
theorem index_at {c : UInt8} {r : List UInt8} : ∀ {x : List UInt8}, c ∉ x → Lib.index (x ++ c :: r) [c] = ((x.length : Nat) : Int)
  | [], _ => by show Lib.index (c :: r) [c] = _; rw [Lib.index]; simp [List.isPrefixOf]
  | b :: x, h => by
    have hb : b ≠ c := fun e => h (by simp [e])
    have ih := index_at (c := c) (r := r) (x := x) (fun e => h (List.mem_cons_of_mem _ e))
    have hp : ([c] : List UInt8).isPrefixOf (b :: (x ++ c :: r)) = false := by simp [List.isPrefixOf, Ne.symm hb]
    have hne : (((x.length : Nat) : Int) == -1) = false := by rw [beq_eq_false_iff_ne]; omega
    show Lib.index (b :: (x ++ c :: r)) [c] = _
    rw [Lib.index, hp, ih, hne]
    simp
theorem index_no {c : UInt8} : ∀ {x : List UInt8}, c ∉ x → Lib.index x [c] = -1
  | [], _ => by rw [Lib.index]; rfl
  | b :: x, h => by
    have hb : b ≠ c := fun e => h (by simp [e])
    have ih := index_no (c := c) (x := x) (fun e => h (List.mem_cons_of_mem _ e))
    have hp : ([c] : List UInt8).isPrefixOf (b :: x) = false := by simp [List.isPrefixOf, Ne.symm hb]
    rw [Lib.index, hp, ih]
    rfl
/-- a numeral as strconv.Itoa writes it -/
def itoaS (v : Int) : List UInt8 := if v < 0 then 45 :: decS v.natAbs else decS v.toNat
theorem decDigits_is (u : Nat) : Lib.decDigits u = decS u := by
  induction u using Nat.strongRecOn with
  | ind u ih =>
    by_cases h : u < 10
    · rw [Lib.decDigits, dif_pos h, decS_small h]; rfl
    · rw [Lib.decDigits, dif_neg h, decS_big h, ih _ (by omega)]; rfl
theorem itoa_is (v : Int) : Lib.itoa v = itoaS v := by
  unfold Lib.itoa itoaS
  rw [decDigits_is, decDigits_is]
theorem itoaS_nat (n : Nat) : itoaS (n : Int) = decS n := by
  unfold itoaS
  rw [if_neg (by omega), Int.toNat_natCast]
end Tx
end Go.Proofs.YtkjgifhklajifaaDoor
namespace Go.Proofs.YtkjgifhklajifaaDoor
namespace Fd
open _root_.Go.Proofs.YtkjgifhklajifaaDoor.Tx _root_.Go.Proofs.YtkjgifhklajifaaDoor.Nm
def escB (b : UInt8) : List UInt8 := if b = 34 ∨ b = 92 then [92, b] else [b]
def escL (l : List UInt8) : List UInt8 := l.flatMap escB
def quoL (l : List UInt8) : List UInt8 := 34 :: (escL l ++ [34])
/-- three digits -/
def dig3 (r : Nat) : List UInt8 := [dch (r / 100), dch (r / 10 % 10), dch (r % 10)]
/-- what stands behind the whole part -/
def fracT (r : Nat) : List UInt8 := if r = 0 then [] else 46 :: Lib.trimRightB (dig3 r) 48
def numT (n : Int) : List UInt8 := (if n < 0 then [45] else []) ++ (decS (n.natAbs / 1000) ++ fracT (n.natAbs % 1000))
def commaL : List (List UInt8) → List UInt8
  | [] => []
  | [x] => x
  | x :: y :: r => x ++ 44 :: commaL (y :: r)
mutual
/-- a value's text -/
def wrV : V → List UInt8
  | .mk k n s is fs =>
    if k = 0 then [110, 117, 108, 108]
    else if k = 1 then (if n = 1 then [116, 114, 117, 101] else [102, 97, 108, 115, 101])
    else if k = 2 then numT n
    else if k = 3 then quoL s.data.toList
    else if k = 4 then 91 :: (commaL (wrL is) ++ [93])
    else 123 :: (commaL (wrF fs) ++ [125])
def wrL : List V → List (List UInt8)
  | [] => []
  | x :: r => wrV x :: wrL r
def wrF : List F → List (List UInt8)
  | [] => []
  | .mk nm x :: r => (quoL nm.data.toList ++ 58 :: wrV x) :: wrF r
end
theorem wrL_map : ∀ l : List V, wrL l = l.map wrV
  | [] => rfl
  | x :: r => by rw [wrL, wrL_map r]; rfl
def wrF1 (f : F) : List UInt8 := quoL (nmF f).data.toList ++ 58 :: wrV (vlF f)
theorem wrF_map : ∀ l : List F, wrF l = l.map wrF1
  | [] => rfl
  | .mk nm x :: r => by rw [wrF, wrF_map r]; rfl
/-- the pieces so far, each behind its comma -/
def runL : List (List UInt8) → List UInt8
  | [] => []
  | x :: r => 44 :: (x ++ runL r)
theorem comma_run : ∀ (x : List UInt8) (r : List (List UInt8)), commaL (x :: r) = x ++ runL r
  | x, [] => by simp [commaL, runL]
  | x, y :: r => by rw [commaL, comma_run y r, runL]
theorem run_snoc : ∀ (l : List (List UInt8)) (x : List UInt8), runL (l ++ [x]) = runL l ++ 44 :: x
  | [], x => by simp [runL]
  | y :: r, x => by rw [List.cons_append, runL, runL, run_snoc r x]; simp
theorem comma_snoc {l : List (List UInt8)} (h : l ≠ []) (x : List UInt8) : commaL (l ++ [x]) = commaL l ++ 44 :: x := by
  cases l with
  | nil => exact absurd rfl h
  | cons y r => rw [List.cons_append, comma_run, comma_run, run_snoc]; simp
theorem comma_take {l : List (List UInt8)} {q : Nat} {x : List UInt8} (h : l[q]? = some x) (hq : 0 < q) : commaL (l.take (q + 1)) = commaL (l.take q) ++ 44 :: x := by
  obtain ⟨hl, rfl⟩ := List.getElem?_eq_some_iff.1 h
  rw [List.take_succ_eq_append_getElem hl]
  refine comma_snoc (fun e => ?_) _
  have := congrArg List.length e
  rw [List.length_take, List.length_nil, Nat.min_eq_left (by omega)] at this
  omega
theorem comma_first {l : List (List UInt8)} {x : List UInt8} (h : l[0]? = some x) : commaL (l.take 1) = x := by
  cases l with
  | nil => cases h
  | cons y r =>
    have : y = x := by simpa using h
    rw [this]; simp [commaL]
/- lengths -/
theorem esc_len : ∀ l : List UInt8, (escL l).length ≤ 2 * l.length
  | [] => by simp [escL]
  | b :: r => by
    have := esc_len r
    unfold escL at this ⊢
    rw [List.flatMap_cons, List.length_append, List.length_cons]
    have : (escB b).length ≤ 2 := by unfold escB; split <;> simp
    omega
theorem quo_len (l : List UInt8) : (quoL l).length ≤ 2 * l.length + 2 := by
  have := esc_len l
  unfold quoL
  rw [List.length_cons, List.length_append]
  simp; omega
/- texts quoted by replacing twice -/
theorem esc_append (a b : List UInt8) : escL (a ++ b) = escL a ++ escL b := by unfold escL; rw [List.flatMap_append]
/-- one byte replaced by a text -/
def rep1 (c : UInt8) (t : List UInt8) (l : List UInt8) : List UInt8 := l.flatMap (fun b => if b = c then t else [b])
theorem rep1_none {c : UInt8} {t : List UInt8} : ∀ {l : List UInt8}, c ∉ l → rep1 c t l = l
  | [], _ => rfl
  | b :: r, h => by
    have hb : b ≠ c := fun e => h (by simp [e])
    have ih := rep1_none (c := c) (t := t) (l := r) (fun e => h (List.mem_cons_of_mem _ e))
    unfold rep1 at ih ⊢
    rw [List.flatMap_cons, ih, if_neg hb]; rfl
theorem replaceK_one (c : UInt8) (t : List UInt8) : ∀ (n : Nat) (l : List UInt8), l.length ≤ n → Lib.replaceK [c] t (Lib.count l [c]) l = rep1 c t l := by
  intro n
  induction n with
  | zero =>
    intro l hn
    have : l = [] := List.eq_nil_of_length_eq_zero (by omega)
    subst this
    rw [Lib.count_miss (index_no (by simp))]; rfl
  | succ n ih =>
    intro l hn
    by_cases h : c ∈ l
    · obtain ⟨x, r, rfl, hx⟩ := mem_split h
      have hi := index_at (r := r) hx
      have hd : (x ++ c :: r).drop (x.length + [c].length) = r := by simp
      have h2 := ih r (by simp at hn; omega)
      rw [Lib.count_hit (by simp) hi, hd, Nat.add_comm, Lib.replaceK_hit _ _ _ _ _ hi, hd, h2]
      have e : rep1 c t (x ++ c :: r) = rep1 c t x ++ (t ++ rep1 c t r) := by
        unfold rep1; rw [List.flatMap_append, List.flatMap_cons, if_pos rfl]
      rw [e, rep1_none hx]; simp
    · rw [Lib.count_miss (index_no h), rep1_none h]; rfl
theorem replaceAll_one {c : UInt8} {t : List UInt8} (h : [c] ≠ t) (l : List UInt8) : Lib.replaceAll l [c] t = rep1 c t l := by
  have e1 : ([c] == t) = false := beq_eq_false_iff_ne.2 h
  unfold Lib.replaceAll Lib.replace Lib.replaceNum
  rw [e1, if_neg (by simp), if_pos (Or.inl (by decide))]
  exact replaceK_one c t _ _ (Nat.le_refl _)
theorem rep_twice (l : List UInt8) : rep1 34 [92, 34] (rep1 92 [92, 92] l) = escL l := by
  induction l with
  | nil => rfl
  | cons b r ih =>
    have e1 : rep1 92 [92, 92] (b :: r) = (if b = 92 then [92, 92] else [b]) ++ rep1 92 [92, 92] r := by unfold rep1; rw [List.flatMap_cons]
    have e2 : ∀ a c, rep1 34 [92, 34] (a ++ c) = rep1 34 [92, 34] a ++ rep1 34 [92, 34] c := fun a c => by unfold rep1; rw [List.flatMap_append]
    rw [e1, e2, ih]
    show _ = escL ([b] ++ r)
    rw [esc_append]
    congr 1
    by_cases h1 : b = 92
    · subst h1; decide
    · by_cases h2 : b = 34
      · subst h2; decide
      · rw [if_neg h1]
        unfold rep1 escL escB
        simp [h1, h2]
theorem rep1_len (c : UInt8) {t : List UInt8} (ht : t.length = 2) : ∀ l : List UInt8, (rep1 c t l).length ≤ 2 * l.length
  | [] => by simp [rep1]
  | b :: r => by
    have := rep1_len c ht r
    unfold rep1 at this ⊢
    rw [List.flatMap_cons, List.length_append, List.length_cons]
    have : (if b = c then t else [b]).length ≤ 2 := by split <;> simp [ht]
    omega
/- three digits -/
theorem dig3_tail {r : Nat} (h : r < 1000) : (decS (1000 + r)).drop 1 = dig3 r := by
  have e1 : (1000 + r) / 10 = 100 + r / 10 := by omega
  have e2 : (100 + r / 10) / 10 = 10 + r / 100 := by omega
  have e3 : (10 + r / 100) / 10 = 1 := by omega
  rw [decS_big (by omega), e1, decS_big (by omega), e2, decS_big (by omega), e3, decS_small (by omega),
    show (1000 + r) % 10 = r % 10 by omega, show (100 + r / 10) % 10 = r / 10 % 10 by omega, show (10 + r / 100) % 10 = r / 100 by omega]
  rfl
theorem dig3_pad {r : Nat} (h : r < 1000) : Lib.repeatL [48] (3 - (decS r).length) ++ decS r = dig3 r := by
  by_cases h1 : r < 10
  · rw [decS_small h1]
    unfold dig3
    rw [show r / 100 = 0 by omega, show r / 10 % 10 = 0 by omega, show r % 10 = r by omega]
    rfl
  · by_cases h2 : r < 100
    · rw [decS_big h1, decS_small (show r / 10 < 10 by omega)]
      unfold dig3
      rw [show r / 100 = 0 by omega, show r / 10 % 10 = r / 10 by omega]
      rfl
    · rw [decS_big h1, decS_big (show ¬ r / 10 < 10 by omega), decS_small (show r / 10 / 10 < 10 by omega)]
      unfold dig3
      rw [show r / 10 / 10 = r / 100 by omega]
      rfl
theorem dch_zero {d : Nat} (h : d < 10) : dch d = 48 ↔ d = 0 := by
  constructor
  · intro e
    have := congrArg UInt8.toNat e
    rw [dch_toNat h] at this
    simp at this; omega
  · rintro rfl; rfl
theorem trim3 (a b c : UInt8) : Lib.trimRightB [a, b, c] 48 = [] ↔ a = 48 ∧ b = 48 ∧ c = 48 := by
  unfold Lib.trimRightB
  by_cases h1 : c = 48
  · by_cases h2 : b = 48
    · by_cases h3 : a = 48
      · simp [h1, h2, h3, List.dropWhile]
      · have e3 : (a == 48) = false := beq_eq_false_iff_ne.2 h3
        simp [h1, h2, h3, e3, List.dropWhile]
    · have e2 : (b == 48) = false := beq_eq_false_iff_ne.2 h2
      simp [h1, h2, e2, List.dropWhile]
  · have e1 : (c == 48) = false := beq_eq_false_iff_ne.2 h1
    simp [h1, e1]
theorem trim_dig3 {r : Nat} (h : r < 1000) : Lib.trimRightB (dig3 r) 48 = [] ↔ r = 0 := by
  unfold dig3
  rw [trim3, dch_zero (by omega), dch_zero (by omega), dch_zero (by omega)]
  omega
end Fd
end Go.Proofs.YtkjgifhklajifaaDoor
namespace Go.Proofs.YtkjgifhklajifaaDoor
open Go.RowKit
theorem ext_alloc (w : World) (o : Obj) : Below w.heap.size w (w.alloc o) := (Below.refl _ _).alloc (Nat.le_refl _) _
/-- A block that may be written. -/
def Fre (W : World) (b : Nat) : Prop := ∀ j, W.frozen? ⟨b, j, none⟩ = false
theorem Fre.ext {W W' : World} {b : Nat} {A : Array Value} (h : Fre W b) (hA : Box W b A) (hb : Below W.heap.size W W') : Fre W' b :=
  fun j => (hb.frozen (p := ⟨b, j, none⟩) hA.1).trans (h j)
theorem Fre.new (w : World) (A : Array Value) (t : TypeId) : Fre (w.alloc (.cells A t)) w.heap.size := fun j => by simp
/-- held: below B the world is W's, and two blocks read as they did -/
abbrev S2R (W : World) (B : Nat) (b1 : Nat) (A1 : Array Value) (b2 : Nat) (A2 : Array Value) (w' : World) : Prop :=
  Below B W w' ∧ (∀ j, w'.cell? ⟨b1, j, none⟩ = A1[j]?) ∧ (∀ j, w'.cell? ⟨b2, j, none⟩ = A2[j]?)
theorem S2R.start {W : World} {B b1 : Nat} {A1 : Array Value} {b2 : Nat} {A2 : Array Value} (h1 : Box W b1 A1) (h2 : Box W b2 A2) : S2R W B b1 A1 b2 A2 W.drew :=
  ⟨(Below.refl _ _).drew, h1.2, h2.2⟩
theorem S2R.ext {W w1 w2 : World} {B b1 : Nat} {A1 : Array Value} {b2 : Nat} {A2 : Array Value} (hb : Below w1.heap.size w1 w2) (h : S2R W B b1 A1 b2 A2 w1) (hB : B ≤ W.heap.size) (h1 : Box W b1 A1) (h2 : Box W b2 A2) : S2R W B b1 A1 b2 A2 w2 :=
  ⟨h.1.trans (hb.mono (Nat.le_trans hB h.1.size)), fun j => (hb.cell (p := ⟨b1, j, none⟩) (Nat.lt_of_lt_of_le h1.1 h.1.size)).trans (h.2.1 j), fun j => (hb.cell (p := ⟨b2, j, none⟩) (Nat.lt_of_lt_of_le h2.1 h.1.size)).trans (h.2.2 j)⟩
theorem S2R.set {W w1 : World} {B b1 : Nat} {A1 : Array Value} {b2 : Nat} {A2 : Array Value} {p : Addr} {v : Value} (h : S2R W B b1 A1 b2 A2 w1) (hp : B ≤ p.block) (h1 : b1 < B) (h2 : b2 < B) : S2R W B b1 A1 b2 A2 (w1.setCell p v) := by
  have hb : Below B w1 (w1.setCell p v) := (Below.refl _ _).setCell hp v
  exact ⟨h.1.trans hb, fun j => (hb.cell (p := ⟨b1, j, none⟩) h1).trans (h.2.1 j), fun j => (hb.cell (p := ⟨b2, j, none⟩) h2).trans (h.2.2 j)⟩

/-- What the call owns stays owned where nothing that is there turns. -/
theorem ownsRow_ext {w w' : World} {base e size n : Nat} {v : Value} {xs : List Value} (h : w.ownsRow base e size v n xs) (hb : Below w.heap.size w w') : w'.ownsRow base e size v n xs := by
  obtain ⟨h1, h2⟩ := h
  refine ⟨h1, ?_⟩
  rcases h2 with h2 | ⟨g, cap, cur, hv, hbg, hg, h3⟩
  · exact .inl h2
  · refine .inr ⟨g, cap, cur, hv, hbg, ?_, h3⟩
    rw [hb.block g (Array.getElem?_eq_some_iff.1 hg).1]; exact hg
/-- A slice over a new block. -/
theorem Sl.new (w : World) (A : Array Value) (t : TypeId) (n cap : Nat) (h : n ≤ cap) (hm : cap ≤ maxLen) : Sl (w.alloc (.cells A t)) (.slice (some ⟨w.heap.size, 0, none⟩) n cap) n A.toList :=
  ⟨_, _, rfl, h, hm, (fun h => by cases h), fun i x hx => ⟨_, _, rfl, by simpa using hx⟩⟩

theorem S2R.grown {W w1 w2 : World} {B b1 : Nat} {A1 : Array Value} {b2 : Nat} {A2 : Array Value} {row : Option Nat} (hg : w1.grownBy w2 row) (h : S2R W B b1 A1 b2 A2 w1) (hB : B ≤ W.heap.size) (h1 : Box W b1 A1) (h2 : Box W b2 A2)
    (hr : ∀ k, row = some k → B ≤ k ∧ k ≠ b1 ∧ k ≠ b2) : S2R W B b1 A1 b2 A2 w2 := by
  have l1 := Nat.lt_of_lt_of_le h1.1 h.1.size
  have l2 := Nat.lt_of_lt_of_le h2.1 h.1.size
  refine ⟨h.1.grown hg (Nat.le_trans hB h.1.size) (fun k e => (hr k e).1), fun j => ?_, fun j => ?_⟩
  · rw [World.cell?_of_block (w := w1) (hg.block b1 l1 (fun e => (hr b1 e.symm).2.1 rfl))]; exact h.2.1 j
  · rw [World.cell?_of_block (w := w1) (hg.block b2 l2 (fun e => (hr b2 e.symm).2.2 rfl))]; exact h.2.2 j
end Go.Proofs.YtkjgifhklajifaaDoor
namespace Go.Proofs.YtkjgifhklajifaaDoor
open Go.RowKit
namespace Nt
/-- the block b is a row of cells A -/
def RH (w : World) (b : Nat) (A : Array Value) (t : TypeId) : Prop := w.heap[b]? = some (.cells A t (0, 0))
theorem RH.lt {w : World} {b : Nat} {A : Array Value} {t : TypeId} (h : RH w b A t) : b < w.heap.size := (Array.getElem?_eq_some_iff.1 h).1
theorem RH.ext {w w' : World} {b : Nat} {A : Array Value} {t : TypeId} (h : RH w b A t) (hb : Below w.heap.size w w') : RH w' b A t := by
  unfold RH; rw [hb.block b h.lt]; exact h
theorem RH.cell {w : World} {b : Nat} {A : Array Value} {t : TypeId} (h : RH w b A t) (j : Nat) : w.cell? ⟨b, j, none⟩ = A[j]? := cell_of_row w b j A t _ h
theorem RH.fre {w : World} {b : Nat} {A : Array Value} {t : TypeId} (h : RH w b A t) (j : Nat) : w.frozen? ⟨b, j, none⟩ = false := by
  unfold RH at h
  simp [World.frozen?, h]
theorem RH.new (w : World) (A : Array Value) (t : TypeId) : RH (w.alloc (.cells A t)) w.heap.size A t := heap_alloc_last w _
theorem RH.row {w : World} {b : Nat} {A : Array Value} {t : TypeId} (h : RH w b A t) (A' : Array Value) : RH (w.setRow b A') b A' t := setRow_heap w b A A' t _ h
theorem RH.set {w : World} {b : Nat} {A : Array Value} {t : TypeId} (h : RH w b A t) (j : Nat) (v : Value) : RH (w.setCell ⟨b, j, none⟩ v) b (A.setIfInBounds j v) t := by
  rw [setCell_eq_setRow w b j A t _ v h]; exact h.row _
theorem RH.set_other {w : World} {b : Nat} {A : Array Value} {t : TypeId} (h : RH w b A t) {p : Addr} (hne : b ≠ p.block) (v : Value) : RH (w.setCell p v) b A t := by
  unfold RH World.setCell
  simp only [Array.getElem?_modify]
  rw [if_neg (fun e => hne e.symm)]; exact h
theorem RH.other {w : World} {b : Nat} {A : Array Value} {t : TypeId} (h : RH w b A t) {p : Addr} (hne : b ≠ p.block) (v : Value) : RH (w.setCell p v) b A t := h.set_other hne v
theorem store_cells {P : Program} {w : World} {g : Nat} {t ty : TypeId} {old A : Array Value} (hg : RH w g old t) (hi : (P.info? ty).map (·.size) = some A.size) (ho : old.size = A.size) (h1 : A.all (·.oneCell') = true) :
    (storeCells ⟨g, 0, none⟩ A.toList 0).run P w = .ok () (w.setRow g A) := by
  have := run_storeVar_row (P := P) w g t ty old A hg hi ho h1
  cases hq : P.info? ty with
  | none => simp [hq] at hi
  | some i =>
    have hs : A.size = i.size := by simp [hq] at hi; omega
    simpa [storeVar, sizeOf, typeInfo, hq, Value.cells, hs] using this
theorem RH.box {w : World} {b : Nat} {A : Array Value} {t : TypeId} (h : RH w b A t) : Box w b A := ⟨h.lt, fun j => h.cell j⟩
def _root_.Go.TypeDesc.isStruct : TypeDesc → Bool
  | .struct _ => true
  | _ => false
end Nt
open Nt (RH RH.cell RH.other)
end Go.Proofs.YtkjgifhklajifaaDoor
