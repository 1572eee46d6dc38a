/- The numeral of a number: plain mathematics. -/
import Derived.Test.YtkinapdfmgfdfaaDec
namespace Go.Proofs.Ytkinapdfmgfdfaa
namespace Nm
/-- the letter of a digit -/
def dch (d : Nat) : UInt8 := UInt8.ofNat (48 + d)
theorem dch_toNat {d : Nat} (h : d < 10) : (dch d).toNat = 48 + d := by
  unfold dch; rw [UInt8.toNat_ofNat']; exact Nat.mod_eq_of_lt (by omega)
theorem digv_dch {d : Nat} (h : d < 10) : digv (dch d) = d := by unfold digv; rw [dch_toNat h]; omega
/-- the numeral -/
def decS (x : Nat) : List UInt8 := if h : x < 10 then [dch x] else decS (x / 10) ++ [dch (x % 10)]
  termination_by x
  decreasing_by omega
theorem decS_small {x : Nat} (h : x < 10) : decS x = [dch x] := by rw [decS]; rw [dif_pos h]
theorem decS_big {x : Nat} (h : ¬ x < 10) : decS x = decS (x / 10) ++ [dch (x % 10)] := by rw [decS]; rw [dif_neg h]
theorem decv_decS (x : Nat) : decv (decS x) = x := by
  induction x using Nat.strongRecOn with
  | ind x ih =>
    by_cases h : x < 10
    · rw [decS_small h, ← List.nil_append [dch x], decv_snoc, digv_dch h, decv_nil]; omega
    · rw [decS_big h, decv_snoc, ih _ (by omega), digv_dch (Nat.mod_lt _ (by decide))]; omega
theorem decS_digs (x : Nat) : Digs (decS x) := by
  induction x using Nat.strongRecOn with
  | ind x ih =>
    by_cases h : x < 10
    · rw [decS_small h]; intro c hc; rw [List.mem_singleton] at hc; subst hc; rw [dch_toNat h]; omega
    · rw [decS_big h]
      intro c hc
      rcases List.mem_append.1 hc with hc | hc
      · exact ih _ (by omega) c hc
      · rw [List.mem_singleton] at hc; subst hc; rw [dch_toNat (Nat.mod_lt _ (by decide))]; have := Nat.mod_lt x (show 10 > 0 by decide); omega
theorem decS_ne (x : Nat) : decS x ≠ [] := by
  by_cases h : x < 10
  · rw [decS_small h]; simp
  · rw [decS_big h]; simp
/-- digits alone, without needless zeros -/
def Whl (l : List UInt8) : Prop := Digs l ∧ ∃ c r, l = c :: r ∧ (r ≠ [] → c.toNat ≠ 48)
theorem decS_whl (x : Nat) : Whl (decS x) := by
  refine ⟨decS_digs x, ?_⟩
  induction x using Nat.strongRecOn with
  | ind x ih =>
    by_cases h : x < 10
    · exact ⟨_, [], decS_small h, fun h => absurd rfl h⟩
    · obtain ⟨c, r, h1, h2⟩ := ih (x / 10) (by omega)
      refine ⟨c, r ++ [dch (x % 10)], by rw [decS_big h, h1]; rfl, fun _ hc => ?_⟩
      by_cases hr : r = []
      · subst hr
        have hv := decv_decS (x / 10)
        rw [h1, ← List.nil_append [c], decv_snoc, decv_nil] at hv
        unfold digv at hv
        omega
      · exact h2 hr hc
theorem digv_inj {c d : UInt8} (hc : 48 ≤ c.toNat ∧ c.toNat ≤ 57) (hd : 48 ≤ d.toNat ∧ d.toNat ≤ 57) (h : digv c = digv d) : c = d := by
  apply UInt8.toNat_inj.1; unfold digv at h; omega
theorem digv_lt {c : UInt8} (hc : 48 ≤ c.toNat ∧ c.toNat ≤ 57) : digv c < 10 := by unfold digv; omega
theorem dch_digv {c : UInt8} (hc : 48 ≤ c.toNat ∧ c.toNat ≤ 57) : dch (digv c) = c := by
  apply UInt8.toNat_inj.1; rw [dch_toNat (digv_lt hc)]; unfold digv; omega
theorem whl_pos {l : List UInt8} (h : Whl l) (hl : 1 < l.length) : 10 ^ (l.length - 1) ≤ decv l := by
  obtain ⟨hd, c, r, rfl, hc⟩ := h
  have hr : r ≠ [] := by intro h; subst h; simp at hl
  have := hc hr
  have h2 := hd c (by simp)
  rw [← List.singleton_append, decv_append, List.length_append]
  simp only [List.length_singleton]
  have h3 : 1 ≤ decv [c] := by rw [← List.nil_append [c], decv_snoc, decv_nil]; unfold digv; omega
  have h4 := Nat.mul_le_mul_right (10 ^ r.length) h3
  rw [show 1 + r.length - 1 = r.length by omega]
  omega
/-- the numeral is the only one -/
theorem whl_eq : ∀ (x : Nat) (l : List UInt8), Whl l → decv l = x → l = decS x := by
  intro x
  induction x using Nat.strongRecOn with
  | ind x ih =>
    intro l hw hv
    obtain ⟨hd, c, r, hl, hc⟩ := id hw
    by_cases hr : r = []
    · subst hr; subst hl
      have h2 := hd c (by simp)
      rw [← List.nil_append [c], decv_snoc, decv_nil] at hv
      have h3 := digv_lt h2
      rw [decS_small (by omega)]
      rw [show x = digv c by omega, dch_digv h2]
    · have hne : l ≠ [] := by rw [hl]; simp
      have hlen : 1 < l.length := by rw [hl]; have := List.length_pos_iff.2 hr; simp; omega
      have hp := whl_pos hw hlen
      have h10 : 10 ≤ decv l := by
        refine Nat.le_trans ?_ hp
        have := Nat.pow_le_pow_right (show 0 < 10 by decide) (show 1 ≤ l.length - 1 by omega)
        simpa using this
      have e := List.dropLast_concat_getLast hne
      have hdl : Whl l.dropLast := by
        refine ⟨fun c hc => hd c (List.dropLast_subset _ hc), c, r.dropLast, by rw [hl, List.dropLast_cons_of_ne_nil hr], fun _ => hc hr⟩
      have hg := hd (l.getLast hne) (List.getLast_mem hne)
      have hv2 := hv
      rw [← e, decv_snoc] at hv2
      have h9 := digv_lt hg
      have h5 := ih (x / 10) (by omega) l.dropLast hdl (by omega)
      rw [decS_big (by omega), ← h5, show x % 10 = digv (l.getLast hne) by omega, dch_digv hg, e]
theorem decS_length {x k : Nat} (h : x < 10 ^ k) (hk : 1 ≤ k) : (decS x).length ≤ k := by
  by_cases h1 : 1 < (decS x).length
  · have := whl_pos (decS_whl x) h1
    rw [decv_decS] at this
    have h2 := (Nat.pow_lt_pow_iff_right (show 1 < 10 by decide)).1 (Nat.lt_of_le_of_lt this h)
    omega
  · omega
theorem lt_of_decS {x k : Nat} (h : (decS x).length ≤ k) : x < 10 ^ k := by
  have := decv_lt (decS_digs x)
  rw [decv_decS] at this
  exact Nat.lt_of_lt_of_le this (Nat.pow_le_pow_right (by decide) h)
/-- the lowest n digits, the lowest one first -/
def pad : Nat → Nat → List UInt8
  | 0, _ => []
  | n + 1, x => dch (x % 10) :: pad n (x / 10)
theorem pad_length (n : Nat) : ∀ x, (pad n x).length = n := by
  induction n with
  | zero => intro x; rfl
  | succ n ih => intro x; simp [pad, ih]
theorem pad_add (a b : Nat) : ∀ x, pad (a + b) x = pad a x ++ pad b (x / 10 ^ a) := by
  induction a with
  | zero => intro x; simp [pad]
  | succ a ih =>
    intro x
    rw [Nat.add_right_comm]
    simp only [pad, List.cons_append]
    rw [ih, Nat.pow_succ, Nat.mul_comm (10 ^ a), Nat.div_div_eq_div_mul]
theorem pad_snoc (n x : Nat) : pad (n + 1) x = pad n x ++ [dch (x / 10 ^ n % 10)] := by
  rw [pad_add n 1 x]; rfl
theorem pad_mod (n : Nat) : ∀ x, pad n (x % 10 ^ n) = pad n x := by
  induction n with
  | zero => intro x; rfl
  | succ n ih =>
    intro x
    have e1 : x % 10 ^ (n + 1) % 10 = x % 10 := Nat.mod_mod_of_dvd _ (by rw [Nat.pow_succ]; exact Nat.dvd_mul_left _ _)
    have e2 : x % 10 ^ (n + 1) / 10 = x / 10 % 10 ^ n := by rw [Nat.pow_succ, Nat.mul_comm]; exact Nat.mod_mul_right_div_self _ _ _
    simp only [pad, e1, e2, ih]
theorem pad_digs (n : Nat) : ∀ x, Digs (pad n x) := by
  induction n with
  | zero => intro x c hc; cases hc
  | succ n ih =>
    intro x c hc
    rcases List.mem_cons.1 hc with rfl | hc
    · rw [dch_toNat (Nat.mod_lt _ (by decide))]; have := Nat.mod_lt x (show 10 > 0 by decide); omega
    · exact ih _ c hc
/-- the value of digits, the lowest one first -/
theorem decv_pad (n : Nat) : ∀ x, x < 10 ^ n → decv (pad n x).reverse = x := by
  induction n with
  | zero => intro x h; have : x = 0 := by simpa using h
            subst this; rfl
  | succ n ih =>
    intro x h
    simp only [pad, List.reverse_cons]
    rw [decv_snoc, ih (x / 10) (by rw [Nat.pow_succ] at h; omega), digv_dch (Nat.mod_lt _ (by decide))]; omega
theorem take_rev (l : List UInt8) (k : Nat) (hk : k < l.length) (hz : l[k].toNat = 48) (x : Nat) (h : decv (l.take (k + 1)).reverse = x) : decv (l.take k).reverse = x := by
  rw [List.take_succ_eq_append_getElem hk, List.reverse_append, List.reverse_singleton, decv_append] at h
  have : decv [l[k]] = 0 := by rw [← List.nil_append [l[k]], decv_snoc, decv_nil]; unfold digv; omega
  rw [this] at h; omega
theorem strip_end {l : List UInt8} (hd : Digs l) {k : Nat} (hk : k < l.length) (hz : l[k].toNat ≠ 48) {x : Nat} (h : decv (l.take (k + 1)).reverse = x) : (l.take (k + 1)).reverse = decS x := by
  refine whl_eq x _ ⟨fun c hc => hd c (List.mem_of_mem_take (List.mem_reverse.1 hc)), l[k], (l.take k).reverse, ?_, fun _ => hz⟩ h
  rw [List.take_succ_eq_append_getElem hk, List.reverse_append]; rfl
end Nm
end Go.Proofs.Ytkinapdfmgfdfaa
