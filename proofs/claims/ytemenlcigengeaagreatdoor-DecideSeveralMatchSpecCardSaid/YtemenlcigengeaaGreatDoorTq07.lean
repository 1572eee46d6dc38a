/- Division of numbers of many words: plain mathematics. bits.Len32, bits.LeadingZeros32. -/
import Derived.Test.YtemenlcigengeaaGreatDoorTq03
import Derived.Test.YtemenlcigengeaaGreatDoorProg
import Derived.Test.YtemenlcigengeaaGreatDoorTq00
import Derived.Lib.Tables
namespace Go.Proofs.YtemenlcigengeaaGreatDoor
namespace Nm
/-- the guess is at most two too great -/
theorem guess_start {two top next P vl u0 ul V U : Nat} (hV : V = (top * B + next) * P + vl) (hU : U = (two * B + u0) * P + ul) (hvl : vl < P) (hul : ul < P) (hu0 : u0 < B) (hnext : next < B) (htop : 2147483648 ≤ top) (hUV : U < B * V) :
    two / top ≤ B + 1 ∧ U < (two / top + 1) * V := by
  have hP : 0 < P := by omega
  constructor
  · have h1 : two * B * P ≤ U := by
      rw [hU, Nat.add_mul]; omega
    have h2 : V < (top * B + next + 1) * P := by rw [hV, Nat.add_mul (top * B + next) 1 P]; omega
    have h3 : B * V < B * ((top * B + next + 1) * P) := Nat.mul_lt_mul_of_pos_left h2 B_pos
    have h4 : two * B * P < (top * B + next + 1) * B * P := by
      have : B * ((top * B + next + 1) * P) = (top * B + next + 1) * B * P := by ac_rfl
      omega
    have h5 : two * B < (top * B + next + 1) * B := Nat.lt_of_mul_lt_mul_right h4
    have h6 : two < top * B + next + 1 := Nat.lt_of_mul_lt_mul_right h5
    have h7 : two < top * (B + 2) := by have hb := B_eq; rw [Nat.mul_add]; omega
    have h8 : two / top < B + 2 := by rw [Nat.div_lt_iff_lt_mul (by omega), Nat.mul_comm]; exact h7
    omega
  · have h1 : two < (two / top + 1) * top := by
      have := Nat.div_add_mod two top
      have h2 := Nat.mod_lt two (show 0 < top by omega)
      rw [Nat.add_mul, Nat.one_mul, Nat.mul_comm (two / top)]; omega
    have h2 : U < (two + 1) * B * P := by
      rw [hU]
      have : (two * B + u0) * P + ul < (two * B + u0 + 1) * P := by rw [Nat.add_mul (two * B + u0) 1 P]; omega
      refine Nat.lt_of_lt_of_le this (Nat.mul_le_mul_right _ ?_)
      rw [Nat.add_mul]; omega
    have h3 : (two + 1) * B * P ≤ (two / top + 1) * top * B * P := Nat.mul_le_mul_right _ (Nat.mul_le_mul_right _ h1)
    have h4 : (two / top + 1) * top * B * P ≤ (two / top + 1) * V := by
      rw [hV, Nat.mul_assoc, Nat.mul_assoc]
      refine Nat.mul_le_mul_left _ ?_
      rw [← Nat.mul_assoc, Nat.add_mul]; omega
    omega
theorem guess_less {g r two top next P vl u0 ul V U : Nat} (hV : V = (top * B + next) * P + vl) (hU : U = (two * B + u0) * P + ul) (hul : ul < P) (hgr : g * top + r = two) (h : r * B + u0 < g * next) : U < g * V := by
  have h1 : two * B + u0 + 1 ≤ g * (top * B + next) := by
    rw [← hgr, Nat.mul_add, ← Nat.mul_assoc, Nat.add_mul]; omega
  have h2 : (two * B + u0 + 1) * P ≤ g * (top * B + next) * P := Nat.mul_le_mul_right _ h1
  have h3 : g * (top * B + next) * P ≤ g * V := by rw [hV, Nat.mul_assoc]; exact Nat.mul_le_mul_left _ (by omega)
  rw [Nat.add_mul (two * B + u0) 1 P] at h2
  omega
theorem guess_end {g r two top next P vl u0 ul V U : Nat} (hV : V = (top * B + next) * P + vl) (hU : U = (two * B + u0) * P + ul) (hvl : vl < P) (htop : 1 ≤ top) (hg : g ≤ B) (hgr : g * top + r = two) (h : g * next ≤ r * B + u0) : g * V < U + V := by
  have h1 : g * (top * B + next) ≤ two * B + u0 := by
    rw [← hgr, Nat.mul_add, ← Nat.mul_assoc, Nat.add_mul]; omega
  have h2 : g * (top * B + next) * P ≤ (two * B + u0) * P := Nat.mul_le_mul_right _ h1
  have h3 : g * vl ≤ B * vl := Nat.mul_le_mul_right _ hg
  have h4 : B * (vl + 1) ≤ B * P := Nat.mul_le_mul_left _ hvl
  have h5 : 1 * B * P ≤ top * B * P := Nat.mul_le_mul_right _ (Nat.mul_le_mul_right _ htop)
  have h6 : top * B * P ≤ V := by rw [hV, Nat.add_mul]; omega
  have h7 : g * V = g * (top * B + next) * P + g * vl := by rw [hV, Nat.mul_add, Nat.mul_assoc]
  have := B_pos
  rw [Nat.mul_add, Nat.mul_one] at h4
  rw [Nat.one_mul] at h5
  omega
/-- the words of the divisor from the top -/
theorem val_top {l : List Nat} {m : Nat} (hm : 2 ≤ m) (hl : l.length = m) : ∃ (h1 : m - 1 < l.length) (h2 : m - 2 < l.length), val l = (l[m - 1] * B + l[m - 2]) * B ^ (m - 2) + val (l.take (m - 2)) := by
  refine ⟨by omega, by omega, ?_⟩
  have e1 := val_take_succ l (m - 1) (by omega)
  have e2 := val_take_succ l (m - 2) (by omega)
  rw [show m - 1 + 1 = m by omega, List.take_of_length_le (by omega)] at e1
  rw [show m - 2 + 1 = m - 1 by omega] at e2
  have e3 : B ^ (m - 1) = B ^ (m - 2) * B := by rw [← Nat.pow_succ]; congr 1; omega
  rw [e1, e2, e3, Nat.add_mul]
  have : l[m - 1] * B * B ^ (m - 2) = B ^ (m - 2) * B * l[m - 1] := by ac_rfl
  rw [Nat.mul_comm l[m - 2]]
  omega
/-- the quotient of what is shifted -/
theorem shift_div {x y d Q R : Nat} (hd : 0 < d) (hy : 0 < y) (h : x * d = Q * (y * d) + R) (hR : R < y * d) : Q = x / y ∧ R / d = x % y := by
  have hQ : x * d / (y * d) = Q := by
    rw [h, Nat.add_comm, Nat.add_mul_div_right _ _ (Nat.mul_pos hy hd), Nat.div_eq_of_lt hR, Nat.zero_add]
  have hR2 : x * d % (y * d) = R := by rw [h, Nat.add_comm, Nat.add_mul_mod_self_right, Nat.mod_eq_of_lt hR]
  rw [Nat.mul_div_mul_right _ _ hd] at hQ
  rw [Nat.mul_mod_mul_right] at hR2
  exact ⟨hQ.symm, by rw [← hR2, Nat.mul_div_cancel _ hd]⟩
/-- the divisor, shifted: its top word is great, and it has no more words -/
theorem norm_top {y s m : Nat} (hm : wlen y = m) (hm1 : 1 ≤ m) (hs : s < 32) {t : Nat} (ht : wd (digs y) (m - 1) = t) (h1 : 2147483648 ≤ t * 2 ^ s) (h2 : t * 2 ^ s < 4294967296) : wlen (y * 2 ^ s) = m ∧ 2147483648 ≤ wd (digs (y * 2 ^ s)) (m - 1) ∧ B ^ (m - 1) * 2 ^ s ≤ y * 2 ^ s ∧ y * 2 ^ s < B ^ m := by
  have hl : (digs y).length = m := hm
  have e := val_take_wd (digs y) (m - 1)
  rw [show m - 1 + 1 = m by omega, List.take_of_length_le (by omega), val_digs, ht] at e
  have hlow := val_lt ((digs_dg y).take (m - 1))
  rw [List.length_take, Nat.min_eq_left (by omega)] at hlow
  have hB : B ^ m = B ^ (m - 1) * B := by rw [← Nat.pow_succ]; congr 1; omega
  have hp := Nat.two_pow_pos s
  have hy0 : 0 < t := by
    rcases Nat.eq_zero_or_pos t with h | h
    · subst h; simp at h1
    · exact h
  have hE : 2 ^ (32 - s) * 2 ^ s = 4294967296 := by rw [← Nat.pow_add, show 32 - s + s = 32 by omega]
  have ht2 : (t + 1) * 2 ^ s ≤ 4294967296 := by
    rw [← hE]; refine Nat.mul_le_mul_right _ ?_
    rw [← hE] at h2
    exact Nat.lt_of_mul_lt_mul_right h2
  have hup : y * 2 ^ s < B ^ m := by
    rw [hB]
    have h3 : y < B ^ (m - 1) * (t + 1) := by rw [Nat.mul_add]; omega
    have h4 := Nat.mul_lt_mul_of_pos_right h3 hp
    refine Nat.lt_of_lt_of_le h4 ?_
    rw [Nat.mul_assoc]; exact Nat.mul_le_mul_left _ (by rw [B_eq]; exact ht2)
  have hlo : B ^ (m - 1) * (t * 2 ^ s) ≤ y * 2 ^ s := by
    rw [← Nat.mul_assoc]; exact Nat.mul_le_mul_right _ (by omega)
  have hlo2 : B ^ (m - 1) * 2147483648 ≤ y * 2 ^ s := Nat.le_trans (Nat.mul_le_mul_left _ h1) hlo
  have hBp : 0 < B ^ (m - 1) := Nat.pow_pos B_pos
  have hw : wlen (y * 2 ^ s) = m := by
    refine Nat.le_antisymm (wlen_le hup) ?_
    have h5 := lt_pow_wlen (y * 2 ^ s)
    have h6 : B ^ (m - 1) < B ^ wlen (y * 2 ^ s) := by omega
    have := (Nat.pow_lt_pow_iff_right (show 1 < B by decide)).1 h6
    omega
  refine ⟨hw, ?_, ?_, hup⟩
  · have hl2 : (digs (y * 2 ^ s)).length = m := hw
    have e2 := val_take_wd (digs (y * 2 ^ s)) (m - 1)
    rw [show m - 1 + 1 = m by omega, List.take_of_length_le (by omega), val_digs] at e2
    have hlow2 := val_lt ((digs_dg (y * 2 ^ s)).take (m - 1))
    rw [List.length_take, Nat.min_eq_left (by omega)] at hlow2
    generalize wd (digs (y * 2 ^ s)) (m - 1) = T at *
    have h7 : B ^ (m - 1) * 2147483648 < B ^ (m - 1) * (T + 1) := by rw [Nat.mul_add (B ^ (m - 1)) T 1]; omega
    have := Nat.lt_of_mul_lt_mul_left h7
    omega
  · refine Nat.mul_le_mul_right _ ?_
    have : B ^ (m - 1) * 1 ≤ B ^ (m - 1) * t := Nat.mul_le_mul_left _ hy0
    omega
theorem start_lt {x s n m V : Nat} {u0 : List Nat} (hl : u0.length = n + 1) (huv : val u0 = x * 2 ^ s) (hx : x < B ^ n) (hV : B ^ (m - 1) * 2 ^ s ≤ V) (h1 : 1 ≤ m) (hmn : m ≤ n) : val (u0.drop (n + 1 - m)) < V := by
  have e := val_take_drop u0 (n + 1 - m) (by omega)
  rw [huv] at e
  rcases Nat.lt_or_ge (val (u0.drop (n + 1 - m))) V with h | h
  · exact h
  · exfalso
    have h2 : B ^ (n + 1 - m) * (B ^ (m - 1) * 2 ^ s) ≤ B ^ (n + 1 - m) * val (u0.drop (n + 1 - m)) := Nat.mul_le_mul_left _ (Nat.le_trans hV h)
    rw [← Nat.mul_assoc, ← Nat.pow_add, show n + 1 - m + (m - 1) = n by omega] at h2
    have h3 := Nat.mul_lt_mul_of_pos_right hx (Nat.two_pow_pos s)
    omega
/-- the part that is divided in a round -/
theorem seg_all {l : List Nat} {j m V : Nat} (hj : j + m + 1 ≤ l.length) (hd : val (l.drop (j + 1)) < V) (hlj : l[j]'(by omega) < B) (hV : V < B ^ m) : val ((l.drop j).take (m + 1)) = val (l.drop j) ∧ val (l.drop j) < B * V ∧ val (l.drop j) = l[j]'(by omega) + B * val (l.drop (j + 1)) ∧ val ((l.drop (j + m + 1))) = 0 := by
  have e1 := val_drop l j (by omega)
  have h1 : val (l.drop j) < B * V := by
    rw [e1]
    have : B * (val (l.drop (j + 1)) + 1) ≤ B * V := Nat.mul_le_mul_left _ hd
    rw [Nat.mul_add] at this; omega
  have e2 := val_take_drop (l.drop j) (m + 1) (by rw [List.length_drop]; omega)
  rw [List.drop_drop, ← Nat.add_assoc] at e2
  have h2 : B * V < B ^ (m + 1) := by rw [Nat.pow_succ, Nat.mul_comm]; exact Nat.mul_lt_mul_of_pos_right hV B_pos
  have h3 : val (l.drop (j + m + 1)) = 0 := by
    rcases Nat.eq_zero_or_pos (val (l.drop (j + m + 1))) with h | h
    · exact h
    · have : B ^ (m + 1) * 1 ≤ B ^ (m + 1) * val (l.drop (j + m + 1)) := Nat.mul_le_mul_left _ h
      omega
  refine ⟨?_, h1, e1, h3⟩
  rw [h3] at e2; omega
theorem seg_top {l : List Nat} {j m : Nat} (hm : 2 ≤ m) (hj : j + m + 1 ≤ l.length) : val ((l.drop j).take (m + 1)) = ((l[j + m]'(by omega) * B + l[j + m - 1]'(by omega)) * B + l[j + m - 2]'(by omega)) * B ^ (m - 2) + val ((l.drop j).take (m - 2)) := by
  have e1 := val_take_succ (l.drop j) m (by rw [List.length_drop]; omega)
  have e2 := val_take_succ (l.drop j) (m - 1) (by rw [List.length_drop]; omega)
  have e3 := val_take_succ (l.drop j) (m - 2) (by rw [List.length_drop]; omega)
  rw [show m - 1 + 1 = m by omega] at e2
  rw [show m - 2 + 1 = m - 1 by omega] at e3
  simp only [List.getElem_drop] at e1 e2 e3
  have i2 : j + (m - 1) = j + m - 1 := by omega
  have i3 : j + (m - 2) = j + m - 2 := by omega
  simp only [i2, i3] at e2 e3
  rw [e1, e2, e3]
  have p1 : B ^ (m - 1) = B ^ (m - 2) * B := by rw [← Nat.pow_succ]; congr 1; omega
  have p2 : B ^ m = B ^ (m - 2) * B * B := by rw [← p1, ← Nat.pow_succ]; congr 1; omega
  rw [p1, p2]
  generalize B ^ (m - 2) = P
  generalize l[j + m] = a
  generalize l[j + m - 1] = b
  generalize l[j + m - 2] = c
  have : ((a * B + b) * B + c) * P = P * B * B * a + P * B * b + P * c := by
    rw [Nat.add_mul, Nat.add_mul, Nat.add_mul]
    rw [show a * B * B * P = P * B * B * a by ac_rfl, show b * B * P = P * B * b by ac_rfl, Nat.mul_comm c P]
  omega
/-- the end of a round: the quotient's word, and what is left -/
theorem round_end {D0 Q V R R' x g D Bv : Nat} (hD : D0 = Q * V + R) (hDj : D = x + Bv * D0) (hU : x + Bv * R = g * V + R') : D = (g + Bv * Q) * V + R' := by
  subst hD; rw [hDj, Nat.mul_add, Nat.add_mul, Nat.mul_assoc]; omega
theorem two_div {x2 x1 top : Nat} (_h2 : x2 < 4294967296) (_h1 : x1 < 4294967296) (ht : 2147483648 ≤ top) : ∃ g r : Nat, g = (x2 * 4294967296 + x1) / top ∧ g * top + r = x2 * 4294967296 + x1 ∧ r < top ∧
    ((x2 : Int) * 4294967296 + (x1 : Int)).tdiv (top : Int) = (g : Int) ∧ ((x2 : Int) * 4294967296 + (x1 : Int)).tmod (top : Int) = (r : Int) ∧ ((x2 : Int) * 4294967296 + (x1 : Int)) / (top : Int) = (g : Int) ∧ ((x2 : Int) * 4294967296 + (x1 : Int)) % (top : Int) = (r : Int) := by
  have hc : ((x2 : Int) * 4294967296 + (x1 : Int)) = ((x2 * 4294967296 + x1 : Nat) : Int) := by omega
  refine ⟨_, (x2 * 4294967296 + x1) % top, rfl, Nat.div_add_mod' _ _, Nat.mod_lt _ (by omega), ?_, ?_, ?_, ?_⟩
  · rw [hc]; rfl
  · rw [hc]; rfl
  · rw [hc]; rfl
  · rw [hc]; rfl
theorem seg_same {S' S : List Nat} {j m : Nat} (h : j + m + 1 ≤ S'.length) (hS'r : S'.drop (j + (m + 1)) = S.drop (j + (m + 1))) (hz : val (S.drop (j + m + 1)) = 0)  : val (S'.drop j) = val ((S'.drop j).take (m + 1)) := by
    have := val_take_drop (S'.drop j) (m + 1) (by rw [List.length_drop]; omega)
    rw [List.drop_drop, hS'r, ← Nat.add_assoc, hz, Nat.mul_zero, Nat.add_zero] at this
    exact this
theorem get_same {S u0 : List Nat} {j : Nat} (hSl : j < S.length) (hul : j < u0.length) (hSt : S.take (j + 1) = u0.take (j + 1)) : S[j] = u0[j] := by
    have h1 : (S.take (j + 1))[j]? = (u0.take (j + 1))[j]? := by rw [hSt]
    rw [List.getElem?_take_of_lt (by omega), List.getElem?_take_of_lt (by omega), List.getElem?_eq_getElem (by omega), List.getElem?_eq_getElem (by omega)] at h1
    exact Option.some.inj h1
theorem round_val {S S' u0 Q : List Nat} {j V d : Nat} (hSl : j < S.length) (hul : j < u0.length) (hQl : j < Q.length) (hI : val (u0.drop (j + 1)) = val (Q.drop (j + 1)) * V + val (S.drop (j + 1))) (hx : S[j] = u0[j]) (hv : val (S'.drop j) + d * V = val (S.drop j)) : val (u0.drop j) = val ((Q.set j d).drop j) * V + val (S'.drop j) := by
  have h1 := val_drop S j hSl
  have h2 := val_drop u0 j hul
  rw [drop_set Q j d hQl]
  have h3 : val (d :: Q.drop (j + 1)) = d + B * val (Q.drop (j + 1)) := rfl
  rw [h3]
  rw [h1, hx] at hv
  generalize B = Bv at *
  exact round_end hI h2 (by rw [Nat.add_comm (d * V)]; exact hv.symm)
theorem over_round {S S' u0 Q : List Nat} {j m V d U n : Nat} (hSl : S.length = n + 1) (hj : j + m ≤ n) (hS'l : S'.length = S.length) (hul : u0.length = n + 1) (hQl : j < Q.length) (hSt : S.take (j + 1) = u0.take (j + 1)) (hI : val (u0.drop (j + 1)) = val (Q.drop (j + 1)) * V + val (S.drop (j + 1))) (hS't : S'.take j = S.take j) (hS'r : S'.drop (j + (m + 1)) = S.drop (j + (m + 1))) (hz : val (S.drop (j + m + 1)) = 0) (hU : U = val (S.drop j)) (hv : val ((S'.drop j).take (m + 1)) + d * V = U) :
    S'.take j = u0.take j ∧ val (u0.drop j) = val ((Q.set j d).drop j) * V + val (S'.drop j) ∧ val (S'.drop j) = val ((S'.drop j).take (m + 1)) := by
  have e1 : S'.take j = u0.take j := by
    have := congrArg (List.take j) hSt
    rw [List.take_take, List.take_take, Nat.min_eq_left (Nat.le_succ j)] at this
    rw [hS't]; exact this
  have e2 : val (S'.drop j) = val ((S'.drop j).take (m + 1)) := seg_same (by omega) hS'r hz
  refine ⟨e1, ?_, e2⟩
  rw [← e2, hU] at hv
  exact round_val (by omega) (by omega) hQl hI (get_same (by omega) (by omega) hSt) hv
theorem digit_lt {d V U R : Nat} (hV : U < B * V) (h : R + d * V = U) : d < B := by
  rcases Nat.lt_or_ge d B with h1 | h1
  · exact h1
  · have := Nat.mul_le_mul_right V h1; omega
end Nm
end Go.Proofs.YtemenlcigengeaaGreatDoor
namespace Go.Proofs.YtemenlcigengeaaGreatDoor
open Go.RowKit
namespace Nm
set_option maxRecDepth 100000 in
theorem len8_all : ∀ j : Fin 256, 0 < j.val → ∃ n : Fin 9, Lib.len8 ((j.val : Nat) : Int) = ((n.val : Nat) : Int) ∧ 1 ≤ n.val ∧ 2 ^ (n.val - 1) ≤ j.val ∧ j.val < 2 ^ n.val := by decide +kernel
theorem len8_nat (j : Nat) (h : j < 256) (h0 : 0 < j) : ∃ n : Nat, Lib.len8 (j : Int) = (n : Int) ∧ 1 ≤ n ∧ n ≤ 8 ∧ 2 ^ (n - 1) ≤ j ∧ j < 2 ^ n := by
  obtain ⟨n, h1, h2, h3, h4⟩ := len8_all ⟨j, h⟩ h0
  exact ⟨n.val, h1, h2, by omega, h3, h4⟩
def LenPost (x : Nat) (w : World) (e : Ending) (w' : World) : Prop := (∃ n : Nat, e = .returned (.int .i64 (n : Int)) ∧ 1 ≤ n ∧ n ≤ 32 ∧ 2 ^ (n - 1) ≤ x ∧ x < 2 ^ n) ∧ w = w'
theorem len_up {x k s n : Nat} (hk : 2 ^ s = k) (h1 : 2 ^ (n - 1) ≤ x / k) (h2 : x / k < 2 ^ n) (hn : 1 ≤ n) : 2 ^ (s + n - 1) ≤ x ∧ x < 2 ^ (s + n) := by
  subst hk
  have hp := Nat.two_pow_pos s
  constructor
  · rw [show s + n - 1 = (n - 1) + s by omega, Nat.pow_add]; exact (Nat.le_div_iff_mul_le hp).1 h1
  · rw [Nat.add_comm s n, Nat.pow_add]; exact (Nat.div_lt_iff_lt_mul hp).1 h2
set_option maxRecDepth 1000000 in
set_option maxHeartbeats 2000000 in
theorem len32_at (x : Nat) (hx : x < 4294967296) (h0 : 0 < x) (w : World) : Calls Tryz.prog 147 #[.int .u32 (x : Int)] w (LenPost x w) := by
  have hi := fun (y : Int) (h1 : 0 ≤ y) (h2 : y ≤ 255) => Lib.run_index_len8tab (P := Tryz.prog) w 9 .u8 y Tryz.underlying9 h1 h2
  by_cases h1 : 65536 ≤ x
  · by_cases h2 : 16777216 ≤ x
    · obtain ⟨n, hn, n1, n2, n3, n4⟩ := len8_nat (x / 65536 / 256) (by omega) (by omega)
      have a1 := hi ((x : Int) / 65536 / 256) (by omega) (by omega)
      have HE : Hid (x / 65536 / 256 = x / 16777216) := by
        have : x / 65536 / 256 = x / 16777216 := by omega
        exact this
      have HN := Lib.hid (len_up (x := x) (k := 16777216) (s := 24) (n := n) (by decide) (by have := HE.out; rw [← this]; exact n3) (by have := HE.out; rw [← this]; exact n4) n1)
      rw [show ((x : Int) / 65536 / 256) = ((x / 65536 / 256 : Nat) : Int) by omega, hn] at a1
      rw [show (((x / 65536 / 256 : Nat) : Int)) = (x : Int) / 65536 / 256 by omega] at a1
      clear hi hn n3 n4
      go_enter Tryz.func147, Tryz.ntmps147
      go_wp2
      go_ret
      exact ⟨⟨24 + n, by simp, by omega, by omega, HN.out.1, HN.out.2⟩, rfl⟩
    · obtain ⟨n, hn, n1, n2, n3, n4⟩ := len8_nat (x / 65536) (by omega) (by omega)
      have a1 := hi ((x : Int) / 65536) (by omega) (by omega)
      have HE : Hid (x / 65536 = x / 65536) := by
        have : x / 65536 = x / 65536 := by omega
        exact this
      have HN := Lib.hid (len_up (x := x) (k := 65536) (s := 16) (n := n) (by decide) (by have := HE.out; rw [← this]; exact n3) (by have := HE.out; rw [← this]; exact n4) n1)
      rw [show ((x : Int) / 65536) = ((x / 65536 : Nat) : Int) by omega, hn] at a1
      rw [show (((x / 65536 : Nat) : Int)) = (x : Int) / 65536 by omega] at a1
      clear hi hn n3 n4
      go_enter Tryz.func147, Tryz.ntmps147
      go_wp2
      go_ret
      exact ⟨⟨16 + n, by simp, by omega, by omega, HN.out.1, HN.out.2⟩, rfl⟩
  · by_cases h2 : 256 ≤ x
    · obtain ⟨n, hn, n1, n2, n3, n4⟩ := len8_nat (x / 256) (by omega) (by omega)
      have a1 := hi ((x : Int) / 256) (by omega) (by omega)
      have HE : Hid (x / 256 = x / 256) := by
        have : x / 256 = x / 256 := by omega
        exact this
      have HN := Lib.hid (len_up (x := x) (k := 256) (s := 8) (n := n) (by decide) (by have := HE.out; rw [← this]; exact n3) (by have := HE.out; rw [← this]; exact n4) n1)
      rw [show ((x : Int) / 256) = ((x / 256 : Nat) : Int) by omega, hn] at a1
      rw [show (((x / 256 : Nat) : Int)) = (x : Int) / 256 by omega] at a1
      clear hi hn n3 n4
      go_enter Tryz.func147, Tryz.ntmps147
      go_wp2
      go_ret
      exact ⟨⟨8 + n, by simp, by omega, by omega, HN.out.1, HN.out.2⟩, rfl⟩
    · obtain ⟨n, hn, n1, n2, n3, n4⟩ := len8_nat (x / 1) (by omega) (by omega)
      have a1 := hi ((x : Int)) (by omega) (by omega)
      have HE : Hid (x / 1 = x / 1) := by
        have : x / 1 = x / 1 := by omega
        exact this
      have HN := Lib.hid (len_up (x := x) (k := 1) (s := 0) (n := n) (by decide) (by have := HE.out; rw [← this]; exact n3) (by have := HE.out; rw [← this]; exact n4) n1)
      rw [show ((x : Int)) = ((x / 1 : Nat) : Int) by omega, hn] at a1
      rw [show (((x / 1 : Nat) : Int)) = (x : Int) by omega] at a1
      clear hi hn n3 n4
      go_enter Tryz.func147, Tryz.ntmps147
      go_wp2
      go_ret
      exact ⟨⟨0 + n, by simp, by omega, by omega, HN.out.1, HN.out.2⟩, rfl⟩
theorem zeros32_at (x : Nat) (hx : x < 4294967296) (h0 : 0 < x) (w : World) : Calls Tryz.prog 124 #[.int .u32 (x : Int)] w fun e w' => (∃ n : Nat, e = .returned (.int .i64 (n : Int)) ∧ n < 32 ∧ 2147483648 ≤ x * 2 ^ n ∧ x * 2 ^ n < 4294967296) ∧ w = w' := by
  go_enter Tryz.func124, Tryz.ntmps124
  go_wp2_with fail
  refine (len32_at x hx h0 w).mono ?_
  rintro e w' ⟨⟨n, rfl, n1, n2, n3, n4⟩, rfl⟩
  have HA : Hid (2147483648 ≤ x * 2 ^ (32 - n) ∧ x * 2 ^ (32 - n) < 4294967296) := by
    have : 2147483648 ≤ x * 2 ^ (32 - n) ∧ x * 2 ^ (32 - n) < 4294967296 := by
      have hp := Nat.two_pow_pos (32 - n)
      have h1 := Nat.mul_le_mul_right (2 ^ (32 - n)) n3
      have h2 := Nat.mul_lt_mul_of_pos_right n4 hp
      rw [← Nat.pow_add, show n - 1 + (32 - n) = 31 by omega] at h1
      rw [← Nat.pow_add, show n + (32 - n) = 32 by omega] at h2
      exact ⟨h1, h2⟩
    exact this
  clear n3 n4
  go_wp2
  go_ret
  exact ⟨⟨32 - n, ret_int (by omega), by omega, HA.out.1, HA.out.2⟩, rfl⟩
end Nm
end Go.Proofs.YtemenlcigengeaaGreatDoor
