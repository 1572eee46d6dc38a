/- Events: Check of package event and the reference's. Decimal numerals: plain mathematics. The numeral of a number: plain mathematics. Plain: texts cut at a byte; numerals of at most 13 digits, read and written. No program stands in it. Plain: an event's text, written and read; what is read is written so, and the other way round. No program stands in it. -/
import Derived.Test.YtigjkcbpbjefaaaDoorEv00
import Derived.Deep.Cut
import Derived.Lib.SplitLaws
import Derived.Lib.AtoiTie
import Derived.Lib.ItoaNum
namespace Go.Proofs.YtigjkcbpbjefaaaDoor
open Go.RowKit
def seenC (c : UInt8) : Bool := decide (33 ≤ (c.toNat : Int) ∧ (c.toNat : Int) ≤ 126)
def keyB (l : List UInt8) : Bool := l.all seenC && decide (1 ≤ l.length ∧ l.length ≤ 100)
def seenB (l : List UInt8) : Bool := l.all seenC && !l.isEmpty

theorem keyB_false {l : List UInt8} (h : l.all seenC = false) : keyB l = false := by unfold keyB; rw [h]; rfl
theorem seenB_false {l : List UInt8} (h : l.all seenC = false) : seenB l = false := by unfold seenB; rw [h]; rfl
theorem keyB_true {s : ByteArray} (h : s.data.toList.all seenC = true) : keyB s.data.toList = withinB (s.size : Int) 1 100 := by
  have hl : s.data.toList.length = s.size := Array.length_toList
  unfold keyB withinB; rw [h, hl, Bool.true_and, decide_eq_decide]; omega
set_option maxHeartbeats 2000000 in
theorem rule_XisKey (s : ByteArray) (hs : s.size ≤ maxLen) (w : World) : Calls Tryd.prog 17 #[.string s] w fun e w' => e = .returned (.bool (keyB s.data.toList)) ∧ w = w' := by
  unfold maxLen at hs
  go_enter Tryd.func17, Tryd.ntmps17
  go_wp2
  go_loop [6] (fun i => ∃ k : Nat, k ≤ s.size ∧ i = .int .i64 k ∧ Hid ((s.data.toList.take k).all seenC = true)) (fun i => s.size - (intOf i).toNat)
  case atStart => exact ⟨0, by omega, rfl, rfl⟩
  case round =>
    obtain ⟨k, hk, rfl, HA⟩ := hrel
    by_cases hlt : k < s.size
    · by_cases h1 : 33 ≤ (s[k].toNat : Int)
      · by_cases h2 : (s[k].toNat : Int) ≤ 126
        · have HW : Hid (seenC s[k] = true) := by exact (by unfold seenC; simp; omega : seenC s[k] = true)
          go_wp2
          go_round
          case rel => exact ⟨k + 1, by omega, by go_num, all_snoc _ _ _ hlt HA.out HW.out⟩
          case measure => simp [intOf]; omega
        · have HW : Hid (keyB s.data.toList = false) := keyB_false (all_not _ _ _ hlt (by unfold seenC; simp; omega))
          go_wp2
          go_ret
          exact ⟨ret_bool HW.out.symm, rfl⟩
      · have HW : Hid (keyB s.data.toList = false) := keyB_false (all_not _ _ _ hlt (by unfold seenC; simp; omega))
        go_wp2
        go_ret
        exact ⟨ret_bool HW.out.symm, rfl⟩
    · have HW := Lib.hid (all_end _ _ _ hlt HA.out)
      go_wp2_with (go_at_call 29; refine (rule_within _ _ _ _).mono ?_; rintro e w' ⟨rfl, rfl⟩)
      go_ret
      exact ⟨ret_bool (keyB_true HW.out).symm, rfl⟩
set_option maxHeartbeats 1000000 in
theorem event_within (n low high : Int) (w : World) : Calls Tryd.prog 16 #[.int .i64 n, .int .i64 low, .int .i64 high] w fun e w' => e = .returned (.bool (withinB n low high)) ∧ w = w' := by
  go_enter Tryd.func16, Tryd.ntmps16
  go_wp2
  all_goals go_ret
  all_goals exact ⟨ret_bool (by rw [Bool.eq_iff_iff]; first | (simp [withinB]; done) | (simp [withinB]; omega)), rfl⟩
structure Ev where
  shard : ByteArray
  number : Int
  kind : Int
  time : Int
  key : ByteArray
  name : ByteArray
  arm : Int
  n : Int
abbrev evC (e : Ev) : Array Value := #[.string e.shard, .int .i64 e.number, .int .i64 e.kind, .int .i64 e.time, .string e.key, .string e.name, .int .i64 e.arm, .int .i64 e.n]
def Ev.ok (e : Ev) : Prop := e.shard.size ≤ maxLen ∧ e.key.size ≤ maxLen ∧ e.name.size ≤ maxLen
def checkE (e : Ev) : Int :=
  if nameB e.shard.data.toList = false then 5 else if withinB e.number 1 1000000000000 = false then 1 else if withinB e.kind 1 3 = false then 4 else if withinB e.time 0 4000000000 = false then 1
  else if e.kind = 3 then (if e.key.toList.isEmpty = true ∧ e.name.toList.isEmpty = true ∧ e.arm = 0 ∧ e.n = 0 then 0 else 3)
  else if keyB e.key.data.toList = false then 3 else if nameB e.name.data.toList = false then 5
  else if e.kind = 1 then (if withinB e.arm 0 19 = false then 1 else if e.n ≠ 0 then 3 else 0)
  else (if e.arm ≠ 0 then 3 else if withinB e.n (-1000000000000) 1000000000000 = false then 1 else 0)

set_option maxHeartbeats 4000000 in
theorem event_Check (e : Ev) (he : e.ok) (w : World) : Calls Tryd.prog 9 #[.agg (evC e)] w fun r w' => r = .returned (.int .i64 (checkE e)) ∧ Below w.heap.size w w' := by
  obtain ⟨h1, h2, h3⟩ := he
  go_enter Tryd.func9, Tryd.ntmps9
  go_wp2_with (first | (go_at_call 15; refine (rule_XisName _ (by assumption) _).mono ?_; rintro e w' ⟨rfl, rfl⟩) | (go_at_call 17; refine (rule_XisKey _ (by assumption) _).mono ?_; rintro e w' ⟨rfl, rfl⟩) | (go_at_call 16; refine (event_within _ _ _ _).mono ?_; rintro e w' ⟨rfl, rfl⟩))
  all_goals go_ret
  all_goals refine ⟨ret_int ?_, by go_grown⟩
  all_goals first | (simp_all [checkE]; done) | (simp_all [checkE]; omega)
end Go.Proofs.YtigjkcbpbjefaaaDoor
namespace Go.Proofs.YtigjkcbpbjefaaaDoor
namespace Nm
def digv (c : UInt8) : Nat := c.toNat - 48
/-- what digits mean -/
def decv (l : List UInt8) : Nat := l.foldl (fun a c => a * 10 + digv c) 0
theorem decv_nil : decv [] = 0 := rfl
theorem decv_foldl (m : List UInt8) : ∀ a, m.foldl (fun a c => a * 10 + digv c) a = a * 10 ^ m.length + decv m := by
  induction m with
  | nil => intro a; simp [decv]
  | cons c m ih =>
    intro a
    unfold decv
    simp only [List.foldl_cons, List.length_cons]
    rw [ih, ih (0 * 10 + digv c), Nat.pow_succ, Nat.zero_mul, Nat.zero_add, Nat.add_mul, Nat.mul_assoc, Nat.mul_comm 10]
    omega
theorem decv_append (l m : List UInt8) : decv (l ++ m) = decv l * 10 ^ m.length + decv m := by
  unfold decv; rw [List.foldl_append]; exact decv_foldl m _
theorem decv_snoc (l : List UInt8) (c : UInt8) : decv (l ++ [c]) = decv l * 10 + digv c := by rw [decv_append]; simp [decv]
/-- digits alone -/
def Digs (l : List UInt8) : Prop := ∀ c ∈ l, 48 ≤ c.toNat ∧ c.toNat ≤ 57
theorem Digs.take {l : List UInt8} (h : Digs l) (k : Nat) : Digs (l.take k) := fun c hc => h c (List.mem_of_mem_take hc)
theorem Digs.drop {l : List UInt8} (h : Digs l) (k : Nat) : Digs (l.drop k) := fun c hc => h c (List.mem_of_mem_drop hc)
theorem decv_lt {l : List UInt8} (h : Digs l) : decv l < 10 ^ l.length := by
  rw [← List.reverse_reverse l] at h ⊢
  generalize l.reverse = r at *
  induction r with
  | nil => simp [decv]
  | cons c r ih =>
    rw [List.reverse_cons] at h ⊢
    have h1 := ih (fun d hd => h d (by simp at hd ⊢; exact .inl hd))
    have h2 := h c (by simp)
    rw [decv_snoc, List.length_append, List.length_singleton, Nat.pow_succ]
    unfold digv
    omega
end Nm
end Go.Proofs.YtigjkcbpbjefaaaDoor
namespace Go.Proofs.YtigjkcbpbjefaaaDoor
namespace Nm
/-- the letter of a digit -/
def dch (d : Nat) : UInt8 := UInt8.ofNat (48 + d)
theorem dch_toNat {d : Nat} (h : d < 10) : (dch d).toNat = 48 + d := by
  unfold dch; rw [UInt8.toNat_ofNat']; exact Nat.mod_eq_of_lt (by omega)
theorem digv_dch {d : Nat} (h : d < 10) : digv (dch d) = d := by unfold digv; rw [dch_toNat h]; omega
/-- the numeral -/
def decS (x : Nat) : List UInt8 := if _h : x < 10 then [dch x] else decS (x / 10) ++ [dch (x % 10)]
  termination_by x
  decreasing_by omega
theorem decS_small {x : Nat} (h : x < 10) : decS x = [dch x] := by rw [decS]; rw [dif_pos h]
theorem decS_big {x : Nat} (h : ¬ x < 10) : decS x = decS (x / 10) ++ [dch (x % 10)] := by rw [decS]; rw [dif_neg h]
theorem decv_decS (x : Nat) : decv (decS x) = x := by
  induction x using Nat.strongRecOn with
  | ind x ih =>
    by_cases h : x < 10
    · rw [decS_small h, ← List.nil_append [dch x], decv_snoc, digv_dch h, decv_nil]; omega
    · rw [decS_big h, decv_snoc, ih _ (by omega), digv_dch (Nat.mod_lt _ (by decide))]; omega
theorem decS_digs (x : Nat) : Digs (decS x) := by
  induction x using Nat.strongRecOn with
  | ind x ih =>
    by_cases h : x < 10
    · rw [decS_small h]; intro c hc; rw [List.mem_singleton] at hc; subst hc; rw [dch_toNat h]; omega
    · rw [decS_big h]
      intro c hc
      rcases List.mem_append.1 hc with hc | hc
      · exact ih _ (by omega) c hc
      · rw [List.mem_singleton] at hc; subst hc; rw [dch_toNat (Nat.mod_lt _ (by decide))]; have := Nat.mod_lt x (show 10 > 0 by decide); omega
theorem decS_ne (x : Nat) : decS x ≠ [] := by
  by_cases h : x < 10
  · rw [decS_small h]; simp
  · rw [decS_big h]; simp
/-- digits alone, without needless zeros -/
def Whl (l : List UInt8) : Prop := Digs l ∧ ∃ c r, l = c :: r ∧ (r ≠ [] → c.toNat ≠ 48)
theorem decS_whl (x : Nat) : Whl (decS x) := by
  refine ⟨decS_digs x, ?_⟩
  induction x using Nat.strongRecOn with
  | ind x ih =>
    by_cases h : x < 10
    · exact ⟨_, [], decS_small h, fun h => absurd rfl h⟩
    · obtain ⟨c, r, h1, h2⟩ := ih (x / 10) (by omega)
      refine ⟨c, r ++ [dch (x % 10)], by rw [decS_big h, h1]; rfl, fun _ hc => ?_⟩
      by_cases hr : r = []
      · subst hr
        have hv := decv_decS (x / 10)
        rw [h1, ← List.nil_append [c], decv_snoc, decv_nil] at hv
        unfold digv at hv
        omega
      · exact h2 hr hc
theorem whl_pos {l : List UInt8} (h : Whl l) (hl : 1 < l.length) : 10 ^ (l.length - 1) ≤ decv l := by
  obtain ⟨hd, c, r, rfl, hc⟩ := h
  have hr : r ≠ [] := by intro h; subst h; simp at hl
  have := hc hr
  have h2 := hd c (by simp)
  rw [← List.singleton_append, decv_append, List.length_append]
  simp only [List.length_singleton]
  have h3 : 1 ≤ decv [c] := by rw [← List.nil_append [c], decv_snoc, decv_nil]; unfold digv; omega
  have h4 := Nat.mul_le_mul_right (10 ^ r.length) h3
  rw [show 1 + r.length - 1 = r.length by omega]
  omega
theorem decS_length {x k : Nat} (h : x < 10 ^ k) (hk : 1 ≤ k) : (decS x).length ≤ k := by
  by_cases h1 : 1 < (decS x).length
  · have := whl_pos (decS_whl x) h1
    rw [decv_decS] at this
    have h2 := (Nat.pow_lt_pow_iff_right (show 1 < 10 by decide)).1 (Nat.lt_of_le_of_lt this h)
    omega
  · omega
theorem lt_of_decS {x k : Nat} (h : (decS x).length ≤ k) : x < 10 ^ k := by
  have := decv_lt (decS_digs x)
  rw [decv_decS] at this
  exact Nat.lt_of_lt_of_le this (Nat.pow_le_pow_right (by decide) h)
end Nm
end Go.Proofs.YtigjkcbpbjefaaaDoor
namespace Go.Proofs.YtigjkcbpbjefaaaDoor
namespace Tx
open _root_.Go.Proofs.YtigjkcbpbjefaaaDoor.Nm
/-- l cut at each byte c -/
def cutL (c : UInt8) : List UInt8 → List (List UInt8)
  | [] => [[]]
  | b :: r => if b = c then [] :: cutL c r else
    match cutL c r with
    | [] => [[b]]
    | x :: y => (b :: x) :: y
theorem cutL_ne (c : UInt8) : ∀ l, cutL c l ≠ []
  | [] => by simp [cutL]
  | b :: r => by
    unfold cutL
    by_cases h : b = c
    · rw [if_pos h]; simp
    · rw [if_neg h]
      cases cutL c r <;> simp
theorem cutL_none {c : UInt8} : ∀ {l : List UInt8}, c ∉ l → cutL c l = [l]
  | [], _ => rfl
  | b :: r, h => by
    have hb : b ≠ c := fun e => h (by simp [e])
    have ih := cutL_none (c := c) (l := r) (fun e => h (List.mem_cons_of_mem _ e))
    unfold cutL
    rw [if_neg hb, ih]
theorem cutL_app {c : UInt8} {r : List UInt8} : ∀ {x : List UInt8}, c ∉ x → cutL c (x ++ c :: r) = x :: cutL c r
  | [], _ => by show cutL c (c :: r) = _; rw [cutL, if_pos rfl]
  | b :: x, h => by
    have hb : b ≠ c := fun e => h (by simp [e])
    have ih := cutL_app (c := c) (r := r) (x := x) (fun e => h (List.mem_cons_of_mem _ e))
    show cutL c (b :: (x ++ c :: r)) = _
    rw [cutL, if_neg hb, ih]
def joinL (c : UInt8) : List (List UInt8) → List UInt8
  | [] => []
  | [x] => x
  | x :: y :: r => x ++ c :: joinL c (y :: r)
theorem mem_split {c : UInt8} : ∀ {l : List UInt8}, c ∈ l → ∃ x r, l = x ++ c :: r ∧ c ∉ x
  | [], h => by simp at h
  | b :: l, h => by
    by_cases e : b = c
    · exact ⟨[], l, by simp [e], by simp⟩
    · rcases List.mem_cons.1 h with h | h
      · exact absurd h.symm e
      · obtain ⟨x, r, h1, h2⟩ := mem_split h
        refine ⟨b :: x, r, by simp [h1], fun hm => ?_⟩
        rcases List.mem_cons.1 hm with e' | hm
        · exact e e'.symm
        · exact h2 hm
theorem index_at {c : UInt8} {r : List UInt8} : ∀ {x : List UInt8}, c ∉ x → Lib.index (x ++ c :: r) [c] = ((x.length : Nat) : Int)
  | [], _ => by show Lib.index (c :: r) [c] = _; rw [Lib.index]; simp [List.isPrefixOf]
  | b :: x, h => by
    have hb : b ≠ c := fun e => h (by simp [e])
    have ih := index_at (c := c) (r := r) (x := x) (fun e => h (List.mem_cons_of_mem _ e))
    have hp : ([c] : List UInt8).isPrefixOf (b :: (x ++ c :: r)) = false := by simp [List.isPrefixOf, Ne.symm hb]
    have hne : (((x.length : Nat) : Int) == -1) = false := by rw [beq_eq_false_iff_ne]; omega
    show Lib.index (b :: (x ++ c :: r)) [c] = _
    rw [Lib.index, hp, ih, hne]
    simp
theorem index_no {c : UInt8} : ∀ {x : List UInt8}, c ∉ x → Lib.index x [c] = -1
  | [], _ => by rw [Lib.index]; rfl
  | b :: x, h => by
    have hb : b ≠ c := fun e => h (by simp [e])
    have ih := index_no (c := c) (x := x) (fun e => h (List.mem_cons_of_mem _ e))
    have hp : ([c] : List UInt8).isPrefixOf (b :: x) = false := by simp [List.isPrefixOf, Ne.symm hb]
    rw [Lib.index, hp, ih]
    rfl
theorem splitK_cut (c : UInt8) : ∀ (n : Nat) (l : List UInt8), l.length ≤ n → Lib.splitK [c] 0 (Lib.count l [c]) l = cutL c l := by
  intro n
  induction n with
  | zero =>
    intro l hn
    have : l = [] := List.eq_nil_of_length_eq_zero (by omega)
    subst this
    rw [Lib.count_miss (index_no (by simp))]; rfl
  | succ n ih =>
    intro l hn
    by_cases h : c ∈ l
    · obtain ⟨x, r, rfl, hx⟩ := mem_split h
      have hi := index_at (r := r) hx
      have hd : (x ++ c :: r).drop (x.length + [c].length) = r := by simp
      have hne : (((x.length : Nat) : Int) == -1) = false := by rw [beq_eq_false_iff_ne]; omega
      have h2 := ih r (by simp at hn; omega)
      rw [Lib.count_hit (by simp) hi, hd, Nat.add_comm, Lib.splitK, hi, hne, cutL_app hx, Int.toNat_natCast, hd, h2]
      simp
    · rw [Lib.count_miss (index_no h), cutL_none h]; rfl
/-- what strings.Split gives at one byte -/
theorem split_one (s : ByteArray) (c : UInt8) : (Lib.splitB ⟨#[c]⟩ 0 (Lib.countB s ⟨#[c]⟩) s).map (·.data.toList) = cutL c s.data.toList := by
  rw [Lib.splitB_data]
  exact splitK_cut c _ _ (Nat.le_refl _)
/-- a numeral as strconv.Itoa writes it -/
def itoaS (v : Int) : List UInt8 := if v < 0 then 45 :: decS v.natAbs else decS v.toNat
theorem decDigits_is (u : Nat) : Lib.decDigits u = decS u := by
  induction u using Nat.strongRecOn with
  | ind u ih =>
    by_cases h : u < 10
    · rw [Lib.decDigits, dif_pos h, decS_small h]; rfl
    · rw [Lib.decDigits, dif_neg h, decS_big h, ih _ (by omega)]; rfl
theorem itoa_is (v : Int) : Lib.itoa v = itoaS v := by
  unfold Lib.itoa itoaS
  rw [decDigits_is, decDigits_is]
theorem itoaS_nat (n : Nat) : itoaS (n : Int) = decS n := by
  unfold itoaS
  rw [if_neg (by omega), Int.toNat_natCast]
theorem itoaS_neg {n : Nat} (h : 0 < n) : itoaS (-(n : Int)) = 45 :: decS n := by
  unfold itoaS
  rw [if_pos (by omega), Int.natAbs_neg, Int.natAbs_natCast]
theorem decFrom_digs : ∀ {l : List UInt8} {acc : Nat}, Digs l → Lib.decFrom acc l = some (acc * 10 ^ l.length + decv l)
  | [], acc, _ => by simp [Lib.decFrom, decv]
  | c :: l, acc, h => by
    have hc := h c (by simp)
    have hd : Lib.digitVal c = some (digv c) := by unfold Lib.digitVal digv; rw [if_pos hc]
    have ih := decFrom_digs (l := l) (acc := acc * 10 + digv c) (fun d hd => h d (List.mem_cons_of_mem _ hd))
    have e : decv (c :: l) = digv c * 10 ^ l.length + decv l := by
      have := decv_foldl l (0 * 10 + digv c)
      show List.foldl _ (0 * 10 + digv c) l = _
      rw [this]; simp
    rw [Lib.decFrom, hd]
    show Lib.decFrom (acc * 10 + digv c) l = _
    rw [ih, e, List.length_cons, Nat.pow_succ, Nat.add_mul, Nat.mul_assoc, Nat.mul_comm 10]
    congr 1; omega
theorem decNat_digs {l : List UInt8} (h : Digs l) (hn : l ≠ []) : Lib.decNat l = some (decv l) := by
  unfold Lib.decNat
  have : l.isEmpty = false := by cases l <;> simp_all
  rw [this, decFrom_digs h]; simp
theorem digs_first {c : UInt8} {l : List UInt8} (h : Digs (c :: l)) : (c == 45) = false ∧ (c == 43) = false := by
  have hc := h c (by simp)
  constructor
  · rw [beq_eq_false_iff_ne]; intro e; subst e; exact absurd hc.1 (by decide)
  · rw [beq_eq_false_iff_ne]; intro e; subst e; exact absurd hc.1 (by decide)
theorem atoi_digs {l : List UInt8} (h : Digs l) (hn : l ≠ []) : Lib.atoi l = some ((decv l : Nat) : Int) := by
  cases l with
  | nil => exact absurd rfl hn
  | cons c r =>
    have h1 := digs_first h
    unfold Lib.atoi
    simp only [h1.1, h1.2, decNat_digs h hn]
    rfl
theorem atoi_minus {l : List UInt8} (h : Digs l) (hn : l ≠ []) : Lib.atoi (45 :: l) = some (-((decv l : Nat) : Int)) := by
  unfold Lib.atoi
  simp only [show ((45 : UInt8) == 45) = true from rfl, decNat_digs h hn]
  rfl
/-- numerals that are read: at most 13 digits -/
def Num13 (l : List UInt8) (v : Int) : Prop := l = itoaS v ∧ v.natAbs < 10 ^ 13
theorem itoaS_length {v : Int} (h : v.natAbs < 10 ^ 13) : (itoaS v).length ≤ 14 := by
  unfold itoaS
  split
  · have := decS_length h (by decide); simp; omega
  · have := decS_length (x := v.toNat) (k := 13) (by omega) (by decide); omega
theorem atoiAll_itoa {v : Int} (h : v.natAbs < 10 ^ 13) : Lib.atoiAll (itoaS v) = .ok v := by
  rw [Lib.atoiAll_short _ (by have := itoaS_length h; omega)]
  rcases Int.le_total 0 v with hv | hv
  · obtain ⟨n, rfl⟩ : ∃ n : Nat, v = n := ⟨v.toNat, by omega⟩
    rw [itoaS_nat, atoi_digs (decS_digs n) (decS_ne n), decv_decS]; rfl
  · by_cases h0 : v = 0
    · subst h0
      rw [show itoaS 0 = decS 0 from itoaS_nat 0, atoi_digs (decS_digs 0) (decS_ne 0), decv_decS]; rfl
    · obtain ⟨n, rfl⟩ : ∃ n : Nat, v = -(n : Int) := ⟨v.natAbs, by omega⟩
      rw [itoaS_neg (by omega), atoi_minus (decS_digs n) (decS_ne n), decv_decS]; rfl
/-- digits and their sign's absence -/
def trimM (l : List UInt8) : List UInt8 := Lib.trimPrefix l [45]
theorem trimM_minus (l : List UInt8) : trimM (45 :: l) = l := by simp [trimM, Lib.trimPrefix, Lib.hasPrefix, List.isPrefixOf]
theorem trimM_digs {l : List UInt8} (h : Digs l) : trimM l = l := by
  cases l with
  | nil => rfl
  | cons c r =>
    have := (digs_first h).1
    have h' : (45 == c) = false := by rw [beq_eq_false_iff_ne] at this ⊢; exact fun e => this e.symm
    simp [trimM, Lib.trimPrefix, Lib.hasPrefix, List.isPrefixOf, h']
theorem trimM_itoa {v : Int} : trimM (itoaS v) = decS v.natAbs := by
  rcases Int.le_total 0 v with hv | hv
  · obtain ⟨n, rfl⟩ : ∃ n : Nat, v = n := ⟨v.toNat, by omega⟩
    rw [itoaS_nat, trimM_digs (decS_digs n), Int.natAbs_natCast]
  · by_cases h0 : v = 0
    · subst h0
      rw [show itoaS 0 = decS 0 from itoaS_nat 0, trimM_digs (decS_digs 0)]; rfl
    · obtain ⟨n, rfl⟩ : ∃ n : Nat, v = -(n : Int) := ⟨v.natAbs, by omega⟩
      rw [itoaS_neg (by omega), trimM_minus, Int.natAbs_neg, Int.natAbs_natCast]
/-- how package event reads a number -/
def numO (l : List UInt8) : Option Int :=
  match Lib.atoiAll l with
  | .ok v => if (trimM l).length ≤ 13 ∧ itoaS v = l then some v else none
  | _ => none
theorem numO_iff {l : List UInt8} {v : Int} : numO l = some v ↔ Num13 l v := by
  unfold numO Num13
  constructor
  · intro h
    cases ha : Lib.atoiAll l with
    | ok u =>
      rw [ha] at h
      by_cases hc : (trimM l).length ≤ 13 ∧ itoaS u = l
      · have h2 : (if (trimM l).length ≤ 13 ∧ itoaS u = l then some u else none) = some v := h
        rw [if_pos hc] at h2
        injection h2 with h2
        subst h2
        refine ⟨hc.2.symm, lt_of_decS ?_⟩
        rw [← trimM_itoa, hc.2]; exact hc.1
      · have h2 : (if (trimM l).length ≤ 13 ∧ itoaS u = l then some u else none) = some v := h
        rw [if_neg hc] at h2; cases h2
    | range => rw [ha] at h; cases h
    | _ => rw [ha] at h; cases h
  · rintro ⟨rfl, h⟩
    rw [atoiAll_itoa h]
    show (if _ then some v else none) = some v
    rw [if_pos ⟨by rw [trimM_itoa]; exact decS_length h (by decide), rfl⟩]
end Tx
end Go.Proofs.YtigjkcbpbjefaaaDoor
namespace Go.Proofs.YtigjkcbpbjefaaaDoor
namespace Tx
open Nm
def bs (l : List UInt8) : ByteArray := ⟨l.toArray⟩
theorem bs_data (s : ByteArray) : bs s.data.toList = s := by
  obtain ⟨⟨l⟩⟩ := s; rfl
def expL : List UInt8 := [101, 120, 112, 111, 115, 117, 114, 101]
def outL : List UInt8 := [111, 117, 116, 99, 111, 109, 101]
def markL : List UInt8 := [109, 97, 114, 107]
/-- the words of an event's text -/
def wordsE (e : Ev) : List (List UInt8) :=
  [e.shard.data.toList, itoaS e.number, itoaS e.time] ++
    (if e.kind = 1 then [expL, e.key.data.toList, e.name.data.toList, itoaS e.arm]
     else if e.kind = 2 then [outL, e.key.data.toList, e.name.data.toList, itoaS e.n] else [markL])
def showE (e : Ev) : List UInt8 := joinL 32 (wordsE e)
def read4 (a b c d : List UInt8) : Option Ev :=
  (numO b).bind fun n => (numO c).bind fun t => if wordsB a = true ∧ d = markL then some ⟨bs a, n, 3, t, bs [], bs [], 0, 0⟩ else none
def read7 (a b c d k m z : List UInt8) : Option Ev :=
  (numO b).bind fun n => (numO c).bind fun t => (numO z).bind fun x =>
    if wordsB a = true ∧ seenB k = true ∧ wordsB m = true then
      (if d = expL then some ⟨bs a, n, 1, t, bs k, bs m, x, 0⟩ else if d = outL then some ⟨bs a, n, 2, t, bs k, bs m, 0, x⟩ else none)
    else none
def readW : List (List UInt8) → Option Ev
  | [a, b, c, d] => read4 a b c d
  | [a, b, c, d, k, m, z] => read7 a b c d k m z
  | _ => none
def readO (l : List UInt8) : Option Ev := readW (cutL 32 l)
/-- what Check lets through -/
structure RightE (e : Ev) : Prop where
  shard : nameB e.shard.data.toList = true
  number : 1 ≤ e.number ∧ e.number ≤ 1000000000000
  time : 0 ≤ e.time ∧ e.time ≤ 4000000000
  kind : (e.kind = 3 ∧ e.key = bs [] ∧ e.name = bs [] ∧ e.arm = 0 ∧ e.n = 0) ∨
    (e.kind = 1 ∧ keyB e.key.data.toList = true ∧ nameB e.name.data.toList = true ∧ (0 ≤ e.arm ∧ e.arm ≤ 19) ∧ e.n = 0) ∨
    (e.kind = 2 ∧ keyB e.key.data.toList = true ∧ nameB e.name.data.toList = true ∧ e.arm = 0 ∧ (-1000000000000 ≤ e.n ∧ e.n ≤ 1000000000000))
theorem within_iff {n a b : Int} : withinB n a b = true ↔ a ≤ n ∧ n ≤ b := by unfold withinB; rw [decide_eq_true_eq]
theorem empty_bs {s : ByteArray} (h : s.toList.isEmpty = true) : s = bs [] := by
  rw [ByteArray.toList_eq, List.isEmpty_iff] at h
  rw [← bs_data s, h]
theorem rightE_of {e : Ev} (h : checkE e = 0) : RightE e := by
  unfold checkE at h
  by_cases h1 : nameB e.shard.data.toList = false
  · rw [if_pos h1] at h; cases h
  rw [if_neg h1] at h
  by_cases h2 : withinB e.number 1 1000000000000 = false
  · rw [if_pos h2] at h; cases h
  rw [if_neg h2] at h
  by_cases h3 : withinB e.kind 1 3 = false
  · rw [if_pos h3] at h; cases h
  rw [if_neg h3] at h
  by_cases h4 : withinB e.time 0 4000000000 = false
  · rw [if_pos h4] at h; cases h
  rw [if_neg h4] at h
  have h1' : nameB e.shard.data.toList = true := by simpa using h1
  have h2' := within_iff.1 (show withinB e.number 1 1000000000000 = true by simpa using h2)
  have h3' := within_iff.1 (show withinB e.kind 1 3 = true by simpa using h3)
  have h4' := within_iff.1 (show withinB e.time 0 4000000000 = true by simpa using h4)
  refine ⟨h1', h2', h4', ?_⟩
  by_cases h5 : e.kind = 3
  · rw [if_pos h5] at h
    by_cases h6 : e.key.toList.isEmpty = true ∧ e.name.toList.isEmpty = true ∧ e.arm = 0 ∧ e.n = 0
    · exact .inl ⟨h5, empty_bs h6.1, empty_bs h6.2.1, h6.2.2.1, h6.2.2.2⟩
    · rw [if_neg h6] at h; cases h
  · rw [if_neg h5] at h
    by_cases h6 : keyB e.key.data.toList = false
    · rw [if_pos h6] at h; cases h
    rw [if_neg h6] at h
    by_cases h7 : nameB e.name.data.toList = false
    · rw [if_pos h7] at h; cases h
    rw [if_neg h7] at h
    have h6' : keyB e.key.data.toList = true := by simpa using h6
    have h7' : nameB e.name.data.toList = true := by simpa using h7
    by_cases h8 : e.kind = 1
    · rw [if_pos h8] at h
      by_cases h9 : withinB e.arm 0 19 = false
      · rw [if_pos h9] at h; cases h
      rw [if_neg h9] at h
      by_cases h10 : e.n ≠ 0
      · rw [if_pos h10] at h; cases h
      exact .inr (.inl ⟨h8, h6', h7', within_iff.1 (by simpa using h9), by omega⟩)
    · rw [if_neg h8] at h
      by_cases h9 : e.arm ≠ 0
      · rw [if_pos h9] at h; cases h
      rw [if_neg h9] at h
      by_cases h10 : withinB e.n (-1000000000000) 1000000000000 = false
      · rw [if_pos h10] at h; cases h
      exact .inr (.inr ⟨by omega, h6', h7', by omega, within_iff.1 (by simpa using h10)⟩)
theorem name_words {l : List UInt8} (h : nameB l = true) : wordsB l = true ∧ l.all wordC = true ∧ l.length ≤ 40 := by
  unfold nameB at h
  rw [Bool.and_eq_true, Bool.and_eq_true, decide_eq_true_eq] at h
  refine ⟨?_, h.2, h.1.1.2⟩
  unfold wordsB
  rw [h.2]
  cases l with
  | nil => exact absurd h.1.1.1 (by simp)
  | cons _ _ => rfl
theorem key_seen {l : List UInt8} (h : keyB l = true) : seenB l = true ∧ l.all seenC = true ∧ l.length ≤ 100 := by
  unfold keyB at h
  rw [Bool.and_eq_true, decide_eq_true_eq] at h
  refine ⟨?_, h.1, h.2.2⟩
  unfold seenB
  rw [h.1]
  cases l with
  | nil => exact absurd h.2.1 (by simp)
  | cons _ _ => rfl
end Tx
end Go.Proofs.YtigjkcbpbjefaaaDoor
