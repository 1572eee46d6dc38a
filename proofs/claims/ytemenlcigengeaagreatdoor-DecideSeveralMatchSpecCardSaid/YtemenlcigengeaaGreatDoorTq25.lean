/- Division of numbers of many words: plain mathematics. scaled, short of the reference's natural numbers. -/
import Derived.Test.YtemenlcigengeaaGreatDoorTq23
import Derived.Test.YtemenlcigengeaaGreatDoorTq24
namespace Go.Proofs.YtemenlcigengeaaGreatDoor
namespace Nt
/-- the guess is at most two too great -/
theorem guess_start {two top next P vl u0 ul V U : Nat} (hV : V = (top * B + next) * P + vl) (hU : U = (two * B + u0) * P + ul) (hvl : vl < P) (hul : ul < P) (hu0 : u0 < B) (hnext : next < B) (htop : 500000000 ≤ top) (hUV : U < B * V) :
    two / top ≤ B + 1 ∧ U < (two / top + 1) * V := by
  have hP : 0 < P := by omega
  constructor
  · have h1 : two * B * P ≤ U := by
      rw [hU, Nat.add_mul]; omega
    have h2 : V < (top * B + next + 1) * P := by rw [hV, Nat.add_mul (top * B + next) 1 P]; omega
    have h3 : B * V < B * ((top * B + next + 1) * P) := Nat.mul_lt_mul_of_pos_left h2 B_pos
    have h4 : two * B * P < (top * B + next + 1) * B * P := by
      have : B * ((top * B + next + 1) * P) = (top * B + next + 1) * B * P := by ac_rfl
      omega
    have h5 : two * B < (top * B + next + 1) * B := Nat.lt_of_mul_lt_mul_right h4
    have h6 : two < top * B + next + 1 := Nat.lt_of_mul_lt_mul_right h5
    have h7 : two < top * (B + 2) := by have hb := B_eq; rw [Nat.mul_add]; omega
    have h8 : two / top < B + 2 := by rw [Nat.div_lt_iff_lt_mul (by omega), Nat.mul_comm]; exact h7
    omega
  · have h1 : two < (two / top + 1) * top := by
      have := Nat.div_add_mod two top
      have h2 := Nat.mod_lt two (show 0 < top by omega)
      rw [Nat.add_mul, Nat.one_mul, Nat.mul_comm (two / top)]; omega
    have h2 : U < (two + 1) * B * P := by
      rw [hU]
      have : (two * B + u0) * P + ul < (two * B + u0 + 1) * P := by rw [Nat.add_mul (two * B + u0) 1 P]; omega
      refine Nat.lt_of_lt_of_le this (Nat.mul_le_mul_right _ ?_)
      rw [Nat.add_mul]; omega
    have h3 : (two + 1) * B * P ≤ (two / top + 1) * top * B * P := Nat.mul_le_mul_right _ (Nat.mul_le_mul_right _ h1)
    have h4 : (two / top + 1) * top * B * P ≤ (two / top + 1) * V := by
      rw [hV, Nat.mul_assoc, Nat.mul_assoc]
      refine Nat.mul_le_mul_left _ ?_
      rw [← Nat.mul_assoc, Nat.add_mul]; omega
    omega
theorem guess_less {g r two top next P vl u0 ul V U : Nat} (hV : V = (top * B + next) * P + vl) (hU : U = (two * B + u0) * P + ul) (hul : ul < P) (hgr : g * top + r = two) (h : r * B + u0 < g * next) : U < g * V := by
  have h1 : two * B + u0 + 1 ≤ g * (top * B + next) := by
    rw [← hgr, Nat.mul_add, ← Nat.mul_assoc, Nat.add_mul]; omega
  have h2 : (two * B + u0 + 1) * P ≤ g * (top * B + next) * P := Nat.mul_le_mul_right _ h1
  have h3 : g * (top * B + next) * P ≤ g * V := by rw [hV, Nat.mul_assoc]; exact Nat.mul_le_mul_left _ (by omega)
  rw [Nat.add_mul (two * B + u0) 1 P] at h2
  omega
theorem guess_end {g r two top next P vl u0 ul V U : Nat} (hV : V = (top * B + next) * P + vl) (hU : U = (two * B + u0) * P + ul) (hvl : vl < P) (htop : 1 ≤ top) (hg : g ≤ B) (hgr : g * top + r = two) (h : g * next ≤ r * B + u0) : g * V < U + V := by
  have h1 : g * (top * B + next) ≤ two * B + u0 := by
    rw [← hgr, Nat.mul_add, ← Nat.mul_assoc, Nat.add_mul]; omega
  have h2 : g * (top * B + next) * P ≤ (two * B + u0) * P := Nat.mul_le_mul_right _ h1
  have h3 : g * vl ≤ B * vl := Nat.mul_le_mul_right _ hg
  have h4 : B * (vl + 1) ≤ B * P := Nat.mul_le_mul_left _ hvl
  have h5 : 1 * B * P ≤ top * B * P := Nat.mul_le_mul_right _ (Nat.mul_le_mul_right _ htop)
  have h6 : top * B * P ≤ V := by rw [hV, Nat.add_mul]; omega
  have h7 : g * V = g * (top * B + next) * P + g * vl := by rw [hV, Nat.mul_add, Nat.mul_assoc]
  have := B_pos
  rw [Nat.mul_add, Nat.mul_one] at h4
  rw [Nat.one_mul] at h5
  omega
/-- the words of the divisor from the top -/
theorem val_top {l : List Nat} {m : Nat} (hm : 2 ≤ m) (hl : l.length = m) : ∃ (h1 : m - 1 < l.length) (h2 : m - 2 < l.length), val l = (l[m - 1] * B + l[m - 2]) * B ^ (m - 2) + val (l.take (m - 2)) := by
  refine ⟨by omega, by omega, ?_⟩
  have e1 := val_take_succ l (m - 1) (by omega)
  have e2 := val_take_succ l (m - 2) (by omega)
  rw [show m - 1 + 1 = m by omega, List.take_of_length_le (by omega)] at e1
  rw [show m - 2 + 1 = m - 1 by omega] at e2
  have e3 : B ^ (m - 1) = B ^ (m - 2) * B := by rw [← Nat.pow_succ]; congr 1; omega
  rw [e1, e2, e3, Nat.add_mul]
  have : l[m - 1] * B * B ^ (m - 2) = B ^ (m - 2) * B * l[m - 1] := by ac_rfl
  rw [Nat.mul_comm l[m - 2]]
  omega
/-- the quotient of what is shifted -/
theorem shift_div {x y d Q R : Nat} (hd : 0 < d) (hy : 0 < y) (h : x * d = Q * (y * d) + R) (hR : R < y * d) : Q = x / y ∧ R / d = x % y := by
  have hQ : x * d / (y * d) = Q := by
    rw [h, Nat.add_comm, Nat.add_mul_div_right _ _ (Nat.mul_pos hy hd), Nat.div_eq_of_lt hR, Nat.zero_add]
  have hR2 : x * d % (y * d) = R := by rw [h, Nat.add_comm, Nat.add_mul_mod_self_right, Nat.mod_eq_of_lt hR]
  rw [Nat.mul_div_mul_right _ _ hd] at hQ
  rw [Nat.mul_mod_mul_right] at hR2
  exact ⟨hQ.symm, by rw [← hR2, Nat.mul_div_cancel _ hd]⟩
/-- the divisor, shifted: its top word is great, and it has no more words -/
theorem factor_ok {t : Nat} (h1 : 1 ≤ t) (h2 : t < B) : 500000000 ≤ t * (1000000000 / (t + 1)) ∧ (t + 1) * (1000000000 / (t + 1)) ≤ 1000000000 ∧ 1 ≤ 1000000000 / (t + 1) := by
  rw [B_eq] at h2
  have hf : 1 ≤ 1000000000 / (t + 1) := (Nat.le_div_iff_mul_le (by omega)).2 (by omega)
  have ha := Nat.div_add_mod 1000000000 (t + 1)
  have hb := Nat.mod_lt 1000000000 (show 0 < t + 1 by omega)
  generalize 1000000000 / (t + 1) = f at *
  generalize 1000000000 % (t + 1) = r at *
  refine ⟨?_, by omega, hf⟩
  obtain ⟨f', rfl⟩ : ∃ f', f = f' + 1 := ⟨f - 1, by omega⟩
  obtain ⟨t', rfl⟩ : ∃ t', t = t' + 1 := ⟨t - 1, by omega⟩
  have e1 : (t' + 1) * (f' + 1) = t' * f' + t' + f' + 1 := by rw [Nat.add_mul, Nat.mul_add]; omega
  have e2 : (t' + 1 + 1) * (f' + 1) = (t' + 1) * (f' + 1) + (f' + 1) := by rw [Nat.add_mul (t' + 1) 1]; omega
  rw [e2] at ha
  generalize t' * f' = p at *
  omega
theorem norm_top {y f m : Nat} (hm : wlen y = m) (hm1 : 1 ≤ m) {t : Nat} (ht : wd (digs y) (m - 1) = t) (h1 : 500000000 ≤ t * f) (ht2 : (t + 1) * f ≤ 1000000000) : wlen (y * f) = m ∧ 500000000 ≤ wd (digs (y * f)) (m - 1) ∧ B ^ (m - 1) * f ≤ y * f ∧ y * f < B ^ m := by
  have hl : (digs y).length = m := hm
  have e := val_take_wd (digs y) (m - 1)
  rw [show m - 1 + 1 = m by omega, List.take_of_length_le (by omega), val_digs, ht] at e
  have hlow := val_lt ((digs_dg y).take (m - 1))
  rw [List.length_take, Nat.min_eq_left (by omega)] at hlow
  have hB : B ^ m = B ^ (m - 1) * B := by rw [← Nat.pow_succ]; congr 1; omega
  have hy0 : 0 < t := by
    rcases Nat.eq_zero_or_pos t with h | h
    · subst h; simp at h1
    · exact h
  have hp : 0 < f := by
    rcases Nat.eq_zero_or_pos f with h | h
    · subst h; simp at h1
    · exact h
  have hup : y * f < B ^ m := by
    rw [hB]
    have h3 : y < B ^ (m - 1) * (t + 1) := by rw [Nat.mul_add]; omega
    have h4 := Nat.mul_lt_mul_of_pos_right h3 hp
    refine Nat.lt_of_lt_of_le h4 ?_
    rw [Nat.mul_assoc]; exact Nat.mul_le_mul_left _ (by rw [B_eq]; exact ht2)
  have hlo : B ^ (m - 1) * (t * f) ≤ y * f := by
    rw [← Nat.mul_assoc]; exact Nat.mul_le_mul_right _ (by omega)
  have hlo2 : B ^ (m - 1) * 500000000 ≤ y * f := Nat.le_trans (Nat.mul_le_mul_left _ h1) hlo
  have hBp : 0 < B ^ (m - 1) := Nat.pow_pos B_pos
  have hw : wlen (y * f) = m := by
    refine Nat.le_antisymm (wlen_le hup) ?_
    have h5 := lt_pow_wlen (y * f)
    have h6 : B ^ (m - 1) < B ^ wlen (y * f) := by omega
    have := (Nat.pow_lt_pow_iff_right (show 1 < B by decide)).1 h6
    omega
  refine ⟨hw, ?_, ?_, hup⟩
  · have hl2 : (digs (y * f)).length = m := hw
    have e2 := val_take_wd (digs (y * f)) (m - 1)
    rw [show m - 1 + 1 = m by omega, List.take_of_length_le (by omega), val_digs] at e2
    have hlow2 := val_lt ((digs_dg (y * f)).take (m - 1))
    rw [List.length_take, Nat.min_eq_left (by omega)] at hlow2
    generalize wd (digs (y * f)) (m - 1) = T at *
    have h7 : B ^ (m - 1) * 500000000 < B ^ (m - 1) * (T + 1) := by rw [Nat.mul_add (B ^ (m - 1)) T 1]; omega
    have := Nat.lt_of_mul_lt_mul_left h7
    omega
  · refine Nat.mul_le_mul_right _ ?_
    have : B ^ (m - 1) * 1 ≤ B ^ (m - 1) * t := Nat.mul_le_mul_left _ hy0
    omega
theorem start_lt {x f n m V : Nat} {u0 : List Nat} (hp : 0 < f) (hl : u0.length = n + 1) (huv : val u0 = x * f) (hx : x < B ^ n) (hV : B ^ (m - 1) * f ≤ V) (h1 : 1 ≤ m) (hmn : m ≤ n) : val (u0.drop (n + 1 - m)) < V := by
  have e := val_take_drop u0 (n + 1 - m) (by omega)
  rw [huv] at e
  rcases Nat.lt_or_ge (val (u0.drop (n + 1 - m))) V with h | h
  · exact h
  · exfalso
    have h2 : B ^ (n + 1 - m) * (B ^ (m - 1) * f) ≤ B ^ (n + 1 - m) * val (u0.drop (n + 1 - m)) := Nat.mul_le_mul_left _ (Nat.le_trans hV h)
    rw [← Nat.mul_assoc, ← Nat.pow_add, show n + 1 - m + (m - 1) = n by omega] at h2
    have h3 := Nat.mul_lt_mul_of_pos_right hx hp
    omega
/-- the part that is divided in a round -/
theorem seg_all {l : List Nat} {j m V : Nat} (hj : j + m + 1 ≤ l.length) (hd : val (l.drop (j + 1)) < V) (hlj : l[j]'(by omega) < B) (hV : V < B ^ m) : val ((l.drop j).take (m + 1)) = val (l.drop j) ∧ val (l.drop j) < B * V ∧ val (l.drop j) = l[j]'(by omega) + B * val (l.drop (j + 1)) ∧ val ((l.drop (j + m + 1))) = 0 := by
  have e1 := val_drop l j (by omega)
  have h1 : val (l.drop j) < B * V := by
    rw [e1]
    have : B * (val (l.drop (j + 1)) + 1) ≤ B * V := Nat.mul_le_mul_left _ hd
    rw [Nat.mul_add] at this; omega
  have e2 := val_take_drop (l.drop j) (m + 1) (by rw [List.length_drop]; omega)
  rw [List.drop_drop, ← Nat.add_assoc] at e2
  have h2 : B * V < B ^ (m + 1) := by rw [Nat.pow_succ, Nat.mul_comm]; exact Nat.mul_lt_mul_of_pos_right hV B_pos
  have h3 : val (l.drop (j + m + 1)) = 0 := by
    rcases Nat.eq_zero_or_pos (val (l.drop (j + m + 1))) with h | h
    · exact h
    · have : B ^ (m + 1) * 1 ≤ B ^ (m + 1) * val (l.drop (j + m + 1)) := Nat.mul_le_mul_left _ h
      omega
  refine ⟨?_, h1, e1, h3⟩
  rw [h3] at e2; omega
theorem seg_top {l : List Nat} {j m : Nat} (hm : 2 ≤ m) (hj : j + m + 1 ≤ l.length) : val ((l.drop j).take (m + 1)) = ((l[j + m]'(by omega) * B + l[j + m - 1]'(by omega)) * B + l[j + m - 2]'(by omega)) * B ^ (m - 2) + val ((l.drop j).take (m - 2)) := by
  have e1 := val_take_succ (l.drop j) m (by rw [List.length_drop]; omega)
  have e2 := val_take_succ (l.drop j) (m - 1) (by rw [List.length_drop]; omega)
  have e3 := val_take_succ (l.drop j) (m - 2) (by rw [List.length_drop]; omega)
  rw [show m - 1 + 1 = m by omega] at e2
  rw [show m - 2 + 1 = m - 1 by omega] at e3
  simp only [List.getElem_drop] at e1 e2 e3
  have i2 : j + (m - 1) = j + m - 1 := by omega
  have i3 : j + (m - 2) = j + m - 2 := by omega
  simp only [i2, i3] at e2 e3
  rw [e1, e2, e3]
  have p1 : B ^ (m - 1) = B ^ (m - 2) * B := by rw [← Nat.pow_succ]; congr 1; omega
  have p2 : B ^ m = B ^ (m - 2) * B * B := by rw [← p1, ← Nat.pow_succ]; congr 1; omega
  rw [p1, p2]
  generalize B ^ (m - 2) = P
  generalize l[j + m] = a
  generalize l[j + m - 1] = b
  generalize l[j + m - 2] = c
  have : ((a * B + b) * B + c) * P = P * B * B * a + P * B * b + P * c := by
    rw [Nat.add_mul, Nat.add_mul, Nat.add_mul]
    rw [show a * B * B * P = P * B * B * a by ac_rfl, show b * B * P = P * B * b by ac_rfl, Nat.mul_comm c P]
  omega
/-- the end of a round: the quotient's word, and what is left -/
theorem round_end {D0 Q V R R' x g D Bv : Nat} (hD : D0 = Q * V + R) (hDj : D = x + Bv * D0) (hU : x + Bv * R = g * V + R') : D = (g + Bv * Q) * V + R' := by
  subst hD; rw [hDj, Nat.mul_add, Nat.add_mul, Nat.mul_assoc]; omega
theorem two_div {x2 x1 top : Nat} (_h2 : x2 < 1000000000) (_h1 : x1 < 1000000000) (ht : 500000000 ≤ top) : ∃ g r : Nat, g = (x2 * 1000000000 + x1) / top ∧ g * top + r = x2 * 1000000000 + x1 ∧ r < top ∧
    ((x2 : Int) * 1000000000 + (x1 : Int)).tdiv (top : Int) = (g : Int) ∧ ((x2 : Int) * 1000000000 + (x1 : Int)).tmod (top : Int) = (r : Int) ∧ ((x2 : Int) * 1000000000 + (x1 : Int)) / (top : Int) = (g : Int) ∧ ((x2 : Int) * 1000000000 + (x1 : Int)) % (top : Int) = (r : Int) := by
  have hc : ((x2 : Int) * 1000000000 + (x1 : Int)) = ((x2 * 1000000000 + x1 : Nat) : Int) := by omega
  refine ⟨_, (x2 * 1000000000 + x1) % top, rfl, Nat.div_add_mod' _ _, Nat.mod_lt _ (by omega), ?_, ?_, ?_, ?_⟩
  · rw [hc]; rfl
  · rw [hc]; rfl
  · rw [hc]; rfl
  · rw [hc]; rfl
theorem seg_same {S' S : List Nat} {j m : Nat} (h : j + m + 1 ≤ S'.length) (hS'r : S'.drop (j + (m + 1)) = S.drop (j + (m + 1))) (hz : val (S.drop (j + m + 1)) = 0)  : val (S'.drop j) = val ((S'.drop j).take (m + 1)) := by
    have := val_take_drop (S'.drop j) (m + 1) (by rw [List.length_drop]; omega)
    rw [List.drop_drop, hS'r, ← Nat.add_assoc, hz, Nat.mul_zero, Nat.add_zero] at this
    exact this
theorem get_same {S u0 : List Nat} {j : Nat} (hSl : j < S.length) (hul : j < u0.length) (hSt : S.take (j + 1) = u0.take (j + 1)) : S[j] = u0[j] := by
    have h1 : (S.take (j + 1))[j]? = (u0.take (j + 1))[j]? := by rw [hSt]
    rw [List.getElem?_take_of_lt (by omega), List.getElem?_take_of_lt (by omega), List.getElem?_eq_getElem (by omega), List.getElem?_eq_getElem (by omega)] at h1
    exact Option.some.inj h1
theorem round_val {S S' u0 Q : List Nat} {j V d : Nat} (hSl : j < S.length) (hul : j < u0.length) (hQl : j < Q.length) (hI : val (u0.drop (j + 1)) = val (Q.drop (j + 1)) * V + val (S.drop (j + 1))) (hx : S[j] = u0[j]) (hv : val (S'.drop j) + d * V = val (S.drop j)) : val (u0.drop j) = val ((Q.set j d).drop j) * V + val (S'.drop j) := by
  have h1 := val_drop S j hSl
  have h2 := val_drop u0 j hul
  rw [drop_set Q j d hQl]
  have h3 : val (d :: Q.drop (j + 1)) = d + B * val (Q.drop (j + 1)) := rfl
  rw [h3]
  rw [h1, hx] at hv
  generalize B = Bv at *
  exact round_end hI h2 (by rw [Nat.add_comm (d * V)]; exact hv.symm)
theorem over_round {S S' u0 Q : List Nat} {j m V d U n : Nat} (hSl : S.length = n + 1) (hj : j + m ≤ n) (hS'l : S'.length = S.length) (hul : u0.length = n + 1) (hQl : j < Q.length) (hSt : S.take (j + 1) = u0.take (j + 1)) (hI : val (u0.drop (j + 1)) = val (Q.drop (j + 1)) * V + val (S.drop (j + 1))) (hS't : S'.take j = S.take j) (hS'r : S'.drop (j + (m + 1)) = S.drop (j + (m + 1))) (hz : val (S.drop (j + m + 1)) = 0) (hU : U = val (S.drop j)) (hv : val ((S'.drop j).take (m + 1)) + d * V = U) :
    S'.take j = u0.take j ∧ val (u0.drop j) = val ((Q.set j d).drop j) * V + val (S'.drop j) ∧ val (S'.drop j) = val ((S'.drop j).take (m + 1)) := by
  have e1 : S'.take j = u0.take j := by
    have := congrArg (List.take j) hSt
    rw [List.take_take, List.take_take, Nat.min_eq_left (Nat.le_succ j)] at this
    rw [hS't]; exact this
  have e2 : val (S'.drop j) = val ((S'.drop j).take (m + 1)) := seg_same (by omega) hS'r hz
  refine ⟨e1, ?_, e2⟩
  rw [← e2, hU] at hv
  exact round_val (by omega) (by omega) hQl hI (get_same (by omega) (by omega) hSt) hv
theorem digit_lt {d V U R : Nat} (hV : U < B * V) (h : R + d * V = U) : d < B := by
  rcases Nat.lt_or_ge d B with h1 | h1
  · exact h1
  · have := Nat.mul_le_mul_right V h1; omega
end Nt
end Go.Proofs.YtemenlcigengeaaGreatDoor
namespace Go.Proofs.YtemenlcigengeaaGreatDoor
open Go.RowKit
namespace Nt
theorem scale_step {V P A c X f z q : Nat} (h : V + P * c = A * f) (hs : z + B * q = X * f + c) : (V + P * z) + P * B * q = (A + P * X) * f := by
  have e : P * (z + B * q) = P * (X * f + c) := by rw [hs]
  rw [Nat.mul_add, Nat.mul_add, ← Nat.mul_assoc] at e
  rw [Nat.add_mul, Nat.mul_assoc P X f]
  omega
theorem mul_le' {X f : Nat} (hX : X < 1000000000) (hf : f ≤ 1000000000) : (X : Int) * (f : Int) ≤ 999999999000000000 ∧ 0 ≤ (X : Int) * (f : Int) := by
  have h : X * f ≤ 999999999 * 1000000000 := Nat.mul_le_mul (by omega) (by omega)
  have h2 : ((X * f : Nat) : Int) = (X : Int) * (f : Int) := Int.natCast_mul _ _
  omega
theorem carry_lt {X f c : Nat} (hX : X < 1000000000) (hc : c < f) : (X * f + c) / 1000000000 < f := by
  rw [Nat.div_lt_iff_lt_mul (by omega)]
  have : (X + 1) * f ≤ 1000000000 * f := Nat.mul_le_mul_right _ (by omega)
  rw [Nat.add_mul, Nat.one_mul] at this
  rw [Nat.mul_comm f]; omega
theorem sdiv {rt A n : Nat} (hr : rt < n) (hA : A < 1000000000) (hn : n ≤ 1000000000) : ∃ g r : Nat, g * n + r = rt * 1000000000 + A ∧ r < n ∧ g < 1000000000 ∧
    ((rt : Int) * 1000000000 + (A : Int)).tdiv (n : Int) = (g : Int) ∧ ((rt : Int) * 1000000000 + (A : Int)).tmod (n : Int) = (r : Int) ∧ ((rt : Int) * 1000000000 + (A : Int)) / (n : Int) = (g : Int) ∧ ((rt : Int) * 1000000000 + (A : Int)) % (n : Int) = (r : Int) := by
  have hc : ((rt : Int) * 1000000000 + (A : Int)) = ((rt * 1000000000 + A : Nat) : Int) := by omega
  refine ⟨(rt * 1000000000 + A) / n, (rt * 1000000000 + A) % n, Nat.div_add_mod' _ _, Nat.mod_lt _ (by omega), ?_, ?_, ?_, ?_, ?_⟩
  · rw [Nat.div_lt_iff_lt_mul (by omega)]
    have : (rt + 1) * 1000000000 ≤ n * 1000000000 := Nat.mul_le_mul_right _ hr
    rw [Nat.mul_comm 1000000000]; omega
  · rw [hc]; rfl
  · rw [hc]; rfl
  · rw [hc]; rfl
  · rw [hc]; rfl
theorem short_step {o a g r n rt A : Nat} (h : a = o * n + rt) (hg : g * n + r = rt * B + A) : A + B * a = (g + B * o) * n + r := by
  rw [h, Nat.mul_add, Nat.add_mul, Nat.mul_assoc, Nat.mul_comm B rt]; omega
def ShortPost (w : World) (x n : Nat) (e : Ending) (w' : World) : Prop := ∃ v, e = .returned (.tuple #[v, .int .i64 ((x % n : Nat) : Int)]) ∧ N w' v (x / n) ∧ Below w.heap.size w w'
set_option maxRecDepth 100000 in
set_option maxHeartbeats 4000000 in
theorem short_at (x n : Nat) (v : Value) (w : World) (hx : N w v x) (hn0 : 0 < n) (hn : n ≤ 1000000000) (hxl : wlen x ≤ 2000000000) : Calls Tryz.prog 132 #[v, .int .i64 (n : Int)] w (ShortPost w x n) := by
  obtain ⟨a, c, rfl, s1⟩ := hx.open_
  obtain ⟨p1, p2⟩ := sl_caps s1
  have HX := Lib.hid (digs_dg x)
  unfold wlen at hxl
  have hne : ((n : Int) == 0) = false := by simp; omega
  clear hx
  go_enter Tryz.func132, Tryz.ntmps132
  go_wp2_with (refine wpList_make_words rfl _ _ rfl (digs x).length rfl rfl ?_ ?_ ?_; rotate_left 2; intro W hO hB hsz)
  case refine_1 => go_num
  case refine_2 => omega
  clear hsz
  have HZ : Hid (val ((digs x).drop (digs x).length) = val ((List.replicate (digs x).length 0).drop (digs x).length) * n + 0) := by
    have : val ((digs x).drop (digs x).length) = val ((List.replicate (digs x).length 0).drop (digs x).length) * n + 0 := by rw [List.drop_length, List.drop_of_length_le (by simp)]; simp [val]
    exact this
  have HL0 : Hid ((List.replicate (digs x).length 0).length = (digs x).length) := by
    have := @List.length_replicate Nat (digs x).length 0
    exact this
  go_loopw [7, 8] (fun rv iv wr => ∃ (k rt : Nat) (out : List Nat), k ≤ (digs x).length ∧ iv = .int .i64 ((k : Int) - 1) ∧ rv = .int .i64 rt ∧ rt < n ∧ Hid (out.length = (digs x).length) ∧ Hid (Dg out) ∧ Hid (val ((digs x).drop k) = val (out.drop k) * n + rt) ∧ Own wr w.heap.size out ∧ Below w.heap.size w wr) (fun _ iv _ => (intOf iv + 1).toNat)
  case atStart => exact ⟨_, 0, _, Nat.le_refl _, rfl, rfl, hn0, HL0, Dg.zeros _, HZ, hO, hB⟩
  case round =>
    clear HZ HL0 hO hB
    obtain ⟨k, rt, out, hk, rfl, rfl, hrt, HL, HDo, HV, hOk, hBk⟩ := hrel
    cases k with
    | zero =>
      have HF : Hid (val out = x / n ∧ rt = x % n) := by
        have h1 := HV.out
        rw [List.drop_zero, List.drop_zero, val_digs] at h1
        have h2 : val out = x / n ∧ rt = x % n := by
          rw [h1, Nat.add_comm, Nat.add_mul_div_right _ _ hn0, Nat.div_eq_of_lt hrt, Nat.add_mul_mod_self_right, Nat.mod_eq_of_lt hrt]
          exact ⟨by omega, rfl⟩
        exact h2
      have hs := hOk.sl (c := (digs x).length) (by rw [HL.out]; omega) (by unfold maxLen; omega)
      have hT := trim_at out HDo.out _ _ hs
      rw [HL.out, HF.out.1] at hT
      rw [show ((rt : Nat) : Int) = ((x % n : Nat) : Int) by rw [HF.out.2]]
      clear HF HV
      go_wp2_with fail
      refine Calls.mono hT ?_
      rintro e w' ⟨v, rfl, hv, rfl⟩
      clear hT hs
      go_wp2
      go_ret2
      exact ⟨_, rfl, hv, hBk⟩
    | succ j =>
      have hj : j < (digs x).length := by omega
      obtain ⟨b, o, rfl, e0⟩ := sl_addr (s1.ext hBk) (wcs_get hj)
      have hX := HX.out.get hj
      have hjo : j < out.length := by rw [HL.out]; exact hj
      have o0 := hOk.cell hjo
      have o1 := hOk.frozen j
      have hV1 := val_drop (digs x) j hj
      generalize (digs x)[j] = X at *
      rw [B_eq] at hX
      obtain ⟨g, r, hg, hr, hgB, e1, e2, e3, e4⟩ := sdiv hrt hX hn
      rw [show (((j + 1 : Nat) : Int) - 1) = (j : Int) by omega]
      have HR : Hid (val ((digs x).drop j) = val ((out.set j g).drop j) * n + r) := by
        have : val ((digs x).drop j) = val ((out.set j g).drop j) * n + r := by
          rw [hV1, drop_set out j g hjo]
          exact short_step HV.out (by rw [B_eq]; exact hg)
        exact this
      have HG := Lib.hid hg
      have hrt2 : rt < 1000000000 := by omega
      clear hV1 hg HV
      go_wp2
      go_roundw
      case rel => exact ⟨j, r, out.set j g, by omega, by go_num, by go_num, hr, Hid.len_set HL _ _, Hid.dg_set HDo _ hgB, HR, hOk.set hjo g, hBk.setCell (Nat.le_refl _) _⟩
      case measure => simp [intOf] <;> omega
end Nt
end Go.Proofs.YtemenlcigengeaaGreatDoor
