/- Plain: a right value's text is read back as the value. No program stands in it. Plain: a right value's text is read back as the value (the induction), and how many parts a value that is read has. No program stands in it. Plain: how many parts a value has that is read off a text. No program stands in it. -/
import Derived.Test.YtbhcfmdogdaodaaDoorTe16
import Derived.Test.YtbhcfmdogdaodaaDoorTe25
import Derived.Test.YtbhcfmdogdaodaaDoorTe11
import Derived.Test.YtbhcfmdogdaodaaDoorTe23
namespace Go.Proofs.YtbhcfmdogdaodaaDoor
namespace Fd
open _root_.Go.Proofs.YtbhcfmdogdaodaaDoor.Tx _root_.Go.Proofs.YtbhcfmdogdaodaaDoor.Nm
/-- what may stand behind a number -/
def Stp (l : List UInt8) : Prop := ∀ c r, l = c :: r → digB c = false ∧ c ≠ 46
theorem stp_nil : Stp [] := fun _ _ h => by cases h
theorem stp_cons {c : UInt8} {r : List UInt8} (h : digB c = false) (h2 : c ≠ 46) : Stp (c :: r) := fun _ _ e => by cases e; exact ⟨h, h2⟩
theorem digB_of {c : UInt8} (h : 48 ≤ c.toNat ∧ c.toNat ≤ 57) : digB c = true := decide_eq_true h
theorem digP_all (most : Nat) : ∀ (l : List UInt8) (n k : Nat) (rest : List UInt8), Digs l → k + l.length ≤ most → 0 < k + l.length → (∀ c r, rest = c :: r → digB c = false) →
    digP most n k (l ++ rest) = .ok (n * 10 ^ l.length + decv l, k + l.length) rest
  | [], n, k, [], _, _, hk, _ => by
    rw [List.nil_append, digP, if_neg (by simp at hk; omega)]
    simp [decv]
  | [], n, k, c :: r, _, _, hk, hr => by
    rw [List.nil_append, digP, if_neg (by rw [hr c r rfl]; simp), if_neg (by simp at hk; omega)]
    simp [decv]
  | c :: l, n, k, rest, hd, hm, hk, hr => by
    rw [List.length_cons] at hm
    have h1 := digP_all most l (n * 10 + digv c) (k + 1) rest (fun d h => hd d (List.mem_cons_of_mem _ h)) (by omega) (by omega) hr
    have e : decv (c :: l) = digv c * 10 ^ l.length + decv l := by
      have := decv_append [c] l
      rw [List.singleton_append] at this
      rw [this]
      simp [decv]
    rw [List.cons_append, digP, if_pos (digB_of (hd c (by simp))), if_neg (by omega), h1, e, List.length_cons, Nat.pow_succ, Nat.add_mul, Nat.mul_assoc, Nat.mul_comm 10]
    congr 2
    · omega
    · omega
theorem dec_head (m : Nat) : ∃ c r, decS m = c :: r ∧ (48 ≤ c.toNat ∧ c.toNat ≤ 57) ∧ (m ≠ 0 → c ≠ 48) := by
  obtain ⟨hd, c, r, h1, h2⟩ := decS_whl m
  refine ⟨c, r, h1, hd c (by rw [h1]; simp), fun hm e => ?_⟩
  by_cases hr : r = []
  · have hv := decv_decS m
    rw [h1, hr, e] at hv
    simp [decv, digv] at hv
    omega
  · exact h2 hr (by rw [e]; rfl)
theorem wholeP_dec {m : Nat} (hm : m < 10 ^ 12) {t : List UInt8} (ht : ∀ c r, t = c :: r → digB c = false) : wholeP (decS m ++ t) = .ok m t := by
  obtain ⟨c, r, h1, h2, h3⟩ := dec_head m
  by_cases h0 : m = 0
  · subst h0
    rw [decS_small (by decide)]
    cases t with
    | nil => rfl
    | cons b q =>
      have hb := ht b q rfl
      show wholeP (48 :: b :: q) = _
      simp [wholeP, hb]
  · have hl := decS_length hm (by decide)
    have h5 := digP_all 12 (decS m) 0 0 t (decS_digs m) (by omega) (by rw [h1]; simp) ht
    rw [h1, List.cons_append] at h5 ⊢
    simp only [wholeP]
    rw [if_neg (h3 h0), h5, ← h1]
    simp [Res.bind, decv_decS]
theorem trim_of {r : Nat} (h : r < 1000) (h0 : r ≠ 0) : ∃ D, Lib.trimRightB (dig3 r) 48 = D ∧ Digs D ∧ 0 < D.length ∧ D.length ≤ 3 ∧ decv D * 10 ^ (3 - D.length) = r := by
  have d1 : r / 100 < 10 := by omega
  have d2 : r / 10 % 10 < 10 := by omega
  have d3 : r % 10 < 10 := by omega
  have z1 := dch_zero d1
  have z2 := dch_zero d2
  have z3 := dch_zero d3
  have hg : ∀ {x : Nat}, x < 10 → 48 ≤ (dch x).toNat ∧ (dch x).toNat ≤ 57 := fun hx => by rw [dch_toNat hx]; omega
  unfold dig3 Lib.trimRightB
  by_cases h3 : dch (r % 10) = 48
  · by_cases h2 : dch (r / 10 % 10) = 48
    · have h1 : ¬ dch (r / 100) = 48 := fun h1 => by have := z1.1 h1; have := z2.1 h2; have := z3.1 h3; omega
      have b1 : (dch (r / 100) == 48) = false := beq_eq_false_iff_ne.2 h1
      refine ⟨[dch (r / 100)], by simp [b1, h2, h3, List.dropWhile], fun c hc => ?_, by simp, by simp, ?_⟩
      · rw [List.mem_singleton.1 hc]; exact hg d1
      · have := z2.1 h2
        have := z3.1 h3
        simp only [decv, List.foldl_cons, List.foldl_nil, digv_dch d1, List.length_cons, List.length_nil]
        omega
    · have b2 : (dch (r / 10 % 10) == 48) = false := beq_eq_false_iff_ne.2 h2
      refine ⟨[dch (r / 100), dch (r / 10 % 10)], by simp [b2, h3, List.dropWhile], fun c hc => ?_, by simp, by simp, ?_⟩
      · simp only [List.mem_cons, List.not_mem_nil, or_false] at hc
        rcases hc with rfl | rfl
        · exact hg d1
        · exact hg d2
      · have := z3.1 h3
        simp only [decv, List.foldl_cons, List.foldl_nil, digv_dch d1, digv_dch d2, List.length_cons, List.length_nil]
        omega
  · have b3 : (dch (r % 10) == 48) = false := beq_eq_false_iff_ne.2 h3
    refine ⟨[dch (r / 100), dch (r / 10 % 10), dch (r % 10)], by simp [b3], fun c hc => ?_, by simp, by simp, ?_⟩
    · simp only [List.mem_cons, List.not_mem_nil, or_false] at hc
      rcases hc with rfl | rfl | rfl
      · exact hg d1
      · exact hg d2
      · exact hg d3
    · simp only [decv, List.foldl_cons, List.foldl_nil, digv_dch d1, digv_dch d2, digv_dch d3, List.length_cons, List.length_nil]
      omega
theorem fracP_back {n r : Nat} (h : r < 1000) {t : List UInt8} (ht : Stp t) : fracP n (fracT r ++ t) = .ok (n * 1000 + r) t := by
  unfold fracT
  by_cases h0 : r = 0
  · rw [if_pos h0, List.nil_append, h0, Nat.add_zero]
    cases t with
    | nil => rfl
    | cons c q => rw [fracP, if_neg (ht c q rfl).2]
  · obtain ⟨D, hD, h1, h2, h3, h4⟩ := trim_of h h0
    have h5 := digP_all 3 D 0 0 t h1 (by omega) (by omega) (fun c q e => (ht c q e).1)
    rw [if_neg h0, hD, List.cons_append, fracP, if_pos rfl, h5]
    simp only [Res.bind, Nat.zero_mul, Nat.zero_add]
    rw [h4]
theorem frac_stop {r : Nat} {t : List UInt8} (ht : Stp t) : ∀ c q, fracT r ++ t = c :: q → digB c = false := by
  intro c q e
  unfold fracT at e
  split at e
  · exact (ht c q e).1
  · rw [List.cons_append] at e
    injection e with e1 _
    rw [← e1]; rfl
theorem numP_back {n : Int} (h1 : -1000000000000000 < n) (h2 : n < 1000000000000000) {t : List UInt8} (ht : Stp t) : numP (numT n ++ t) = .ok n t := by
  have hm : n.natAbs / 1000 < 10 ^ 12 := by omega
  have hr : n.natAbs % 1000 < 1000 := Nat.mod_lt _ (by decide)
  have hw := wholeP_dec hm (t := fracT (n.natAbs % 1000) ++ t) (frac_stop ht)
  have hf := fracP_back (n := n.natAbs / 1000) hr ht
  have e : n.natAbs / 1000 * 1000 + n.natAbs % 1000 = n.natAbs := by omega
  rw [e] at hf
  unfold numT
  by_cases h : n < 0
  · rw [if_pos h, List.append_assoc, List.append_assoc, List.singleton_append, numP, if_pos rfl, hw]
    simp only [Res.bind, hf]
    congr 1; omega
  · obtain ⟨c, q, hc, hd, _⟩ := dec_head (n.natAbs / 1000)
    rw [if_neg h, List.nil_append, List.append_assoc]
    rw [hc, List.cons_append] at hw ⊢
    have h45 : ¬ c = 45 := fun e => by rw [e] at hd; exact absurd hd.1 (by decide)
    rw [numP, if_neg h45, hw]
    simp only [Res.bind, hf]
    congr 1; omega
/- texts -/
theorem esc_ge : ∀ l : List UInt8, l.length ≤ (escL l).length
  | [] => Nat.le_refl _
  | b :: r => by
    have := esc_ge r
    unfold escL at this ⊢
    rw [List.flatMap_cons, List.length_append, List.length_cons]
    have : 1 ≤ (escB b).length := by unfold escB; split <;> simp
    omega
theorem txtP_back : ∀ (l acc : List UInt8) (f : Nat) (t : List UInt8), l.all seenC = true → l.length < f → txtP f acc (escL l ++ 34 :: t) = .ok (acc ++ l) t
  | [], acc, 0, t, _, h => by simp at h
  | [], acc, f + 1, t, _, _ => by
    show txtP (f + 1) acc (34 :: t) = _
    rw [txtP, if_neg (by decide), if_pos rfl, List.append_nil]
  | b :: r, acc, 0, t, _, h => by simp at h
  | b :: r, acc, f + 1, t, hs, h => by
    rw [List.all_cons, Bool.and_eq_true] at hs
    rw [List.length_cons] at h
    have ih := txtP_back r (acc ++ [b]) f t hs.2 (by omega)
    rw [List.append_assoc, List.singleton_append] at ih
    have hb : 32 ≤ b.toNat ∧ b.toNat ≤ 126 := by
      have := hs.1
      unfold seenC at this
      simpa using this
    have e : escL (b :: r) = escB b ++ escL r := by unfold escL; rw [List.flatMap_cons]
    rw [e, List.append_assoc]
    unfold escB
    by_cases hq : b = 34 ∨ b = 92
    · rw [if_pos hq]
      show txtP (f + 1) acc (92 :: b :: (escL r ++ 34 :: t)) = _
      rw [txtP, if_neg (by decide), if_neg (by decide), if_pos rfl, escP, if_pos (by rcases hq with h | h <;> simp [h])]
      exact ih
    · rw [if_neg hq]
      show txtP (f + 1) acc (b :: (escL r ++ 34 :: t)) = _
      rw [txtP, if_neg (by omega), if_neg (fun h => hq (.inl h)), if_neg (fun h => hq (.inr h))]
      exact ih
theorem textP_back {l t : List UInt8} (h : l.all seenC = true) : textP (quoL l ++ t) = .ok l t := by
  have h1 := esc_ge l
  unfold quoL textP
  rw [List.cons_append, List.append_assoc, signP, if_pos rfl]
  show txtP _ [] (escL l ++ 34 :: t) = _
  rw [txtP_back l [] _ t h (by simp; omega), List.nil_append]
/-- the first byte of a value's text -/
theorem wr_head : ∀ x : V, ∃ c t, wrV x = c :: t ∧ blankB c = false ∧ c ≠ 93 ∧ c ≠ 125
  | .mk k n s is fs => by
    unfold wrV
    by_cases h0 : k = 0
    · exact ⟨_, _, if_pos h0, by decide, by decide, by decide⟩
    rw [if_neg h0]
    by_cases h1 : k = 1
    · rw [if_pos h1]
      split
      · exact ⟨_, _, rfl, by decide, by decide, by decide⟩
      · exact ⟨_, _, rfl, by decide, by decide, by decide⟩
    rw [if_neg h1]
    by_cases h2 : k = 2
    · rw [if_pos h2]
      unfold numT
      split
      · exact ⟨_, _, rfl, by decide, by decide, by decide⟩
      · obtain ⟨c, q, hc, hd, _⟩ := dec_head (n.natAbs / 1000)
        rw [hc]
        refine ⟨c, _, rfl, ?_, fun e => ?_, fun e => ?_⟩
        · unfold blankB
          have k1 : ¬ c = 9 := fun e => by rw [e] at hd; exact absurd hd.1 (by decide)
          have k2 : ¬ c = 10 := fun e => by rw [e] at hd; exact absurd hd.1 (by decide)
          have k3 : ¬ c = 13 := fun e => by rw [e] at hd; exact absurd hd.1 (by decide)
          have k4 : ¬ c = 32 := fun e => by rw [e] at hd; exact absurd hd.1 (by decide)
          simp [k1, k2, k3, k4]
        · rw [e] at hd; exact absurd hd.2 (by decide)
        · rw [e] at hd; exact absurd hd.2 (by decide)
    rw [if_neg h2]
    by_cases h3 : k = 3
    · rw [if_pos h3]; exact ⟨_, _, rfl, by decide, by decide, by decide⟩
    rw [if_neg h3]
    split
    · exact ⟨_, _, rfl, by decide, by decide, by decide⟩
    · exact ⟨_, _, rfl, by decide, by decide, by decide⟩
theorem skip_wr (x : V) (t : List UInt8) : skipW (wrV x ++ t) = wrV x ++ t := by
  obtain ⟨c, q, h, hb, _⟩ := wr_head x
  rw [h, List.cons_append, skipW, hb]
  simp
theorem more_go {e : UInt8} {t : List UInt8} (h : skipW t = t) : moreP e (44 :: t) = .ok true t := by
  unfold moreP
  rw [skipW, if_neg (by decide)]
  simp [h]
theorem more_end {e : UInt8} {t : List UInt8} (h : blankB e = false) (h2 : e ≠ 44) : moreP e (e :: t) = .ok false t := by
  unfold moreP
  rw [skipW, if_neg (by rw [h]; simp)]
  simp [h2]
theorem name_seen {k n : Int} {s : ByteArray} {is : List V} {fs : List F} (h : chkV (.mk k n s is fs) = 0) : ∀ f ∈ fs, (nmF f).data.toList.all seenC = true := by
  have key : ∀ (l : List F) (p : Option ByteArray), chkFs p l = 0 → ∀ f ∈ l, (nmF f).data.toList.all seenC = true := by
    intro l
    induction l with
    | nil => intro _ _ f hf; cases hf
    | cons g r ih =>
      obtain ⟨a, x⟩ := g
      intro p h f hf
      unfold chkFs at h
      by_cases h1 : nameBad a = true
      · rw [if_pos h1] at h; cases h
      rw [if_neg h1] at h
      split at h
      · cases h
      split at h
      · next h3 => exact absurd h h3
      rcases List.mem_cons.1 hf with rfl | hf
      · unfold nameBad at h1
        simp only [Bool.or_eq_true, decide_eq_true_eq, Bool.not_eq_true', not_or] at h1
        have h9 : seenB a = true := by simpa using h1.2
        exact h9
      · exact ih _ h f hf
  unfold chkV at h
  split at h
  · next h1 => exact absurd h h1
  split at h
  · next h1 => exact absurd h h1
  exact key fs none h
theorem text_seen {n : Int} {s : ByteArray} {is : List V} {fs : List F} (h : chkV (.mk 3 n s is fs) = 0) : s.data.toList.all seenC = true := by
  obtain ⟨h1, _⟩ := chkV_ok h
  unfold ownF at h1
  by_cases hs : seenB s = false
  · split at h1 <;> (try split at h1) <;> (try split at h1) <;> (try split at h1) <;> (try split at h1) <;> (try split at h1) <;> (try (simp at h1; done)) <;> simp_all
  · simpa [seenB] using hs
theorem bool_range {n : Int} {s : ByteArray} {is : List V} {fs : List F} (h : chkV (.mk 1 n s is fs) = 0) : n = 0 ∨ n = 1 := by
  obtain ⟨h1, _⟩ := chkV_ok h
  unfold ownF at h1; split at h1 <;> (try split at h1) <;> (try split at h1) <;> (try split at h1) <;> (try split at h1) <;> (try split at h1) <;> (try (simp at h1; done)) <;> omega
theorem flat_is {k n : Int} {s : ByteArray} {is : List V} {fs : List F} (h : chkV (.mk k n s is fs) = 0) : (n ≠ 0 → k = 1 ∨ k = 2) ∧ (k ≠ 3 → s = ByteArray.empty) ∧ (k ≠ 4 → is = []) ∧ (k ≠ 5 → fs = []) := by
  obtain ⟨h1, _⟩ := chkV_ok h
  obtain ⟨_, a, b, c, d⟩ := ownF_ok h1
  refine ⟨a, fun hk => size_empty (Classical.byContradiction fun e => hk (b e)), fun hk => ?_, fun hk => ?_⟩
  · exact List.length_eq_zero_iff.1 (Classical.byContradiction fun e => hk (c (by omega)))
  · exact List.length_eq_zero_iff.1 (Classical.byContradiction fun e => hk (d (by omega)))
theorem flat_zero {k n : Int} {s : ByteArray} {is : List V} {fs : List F} (h : chkV (.mk k n s is fs) = 0) (h1 : k ≠ 1) (h2 : k ≠ 2) : n = 0 :=
  Classical.byContradiction fun e => by rcases (flat_is h).1 e with h | h; exact h1 h; exact h2 h
theorem runL_cons (x : List UInt8) (r : List (List UInt8)) (c : UInt8) (t : List UInt8) : runL (x :: r) ++ c :: t = 44 :: (x ++ (runL r ++ c :: t)) := by simp [runL]
theorem run_stop (r : List (List UInt8)) {c : UInt8} (t : List UInt8) (h : digB c = false) (h2 : c ≠ 46) : Stp (runL r ++ c :: t) := by
  cases r with
  | nil => exact stp_cons h h2
  | cons x r => rw [runL_cons]; exact stp_cons (by decide) (by decide)
end Fd
end Go.Proofs.YtbhcfmdogdaodaaDoor
namespace Go.Proofs.YtbhcfmdogdaodaaDoor
namespace Fd
open _root_.Go.Proofs.YtbhcfmdogdaodaaDoor.Tx _root_.Go.Proofs.YtbhcfmdogdaodaaDoor.Nm
theorem num_head (n : Int) : ∃ c q, numT n = c :: q ∧ (c = 45 ∨ digB c = true) := by
  unfold numT
  by_cases h : n < 0
  · exact ⟨45, _, by rw [if_pos h]; rfl, .inl rfl⟩
  · obtain ⟨c, q, hc, hd, _⟩ := dec_head (n.natAbs / 1000)
    exact ⟨c, _, by rw [if_neg h, hc]; rfl, .inr (digB_of hd)⟩
theorem valP_num {c : UInt8} (h : c = 45 ∨ digB c = true) (f : Nat) (r : List UInt8) : valP (f + 1) (c :: r) = (numP (c :: r)).bind fun n q => .ok (.mk 2 n ByteArray.empty [] []) q := by
  have k : ∀ d : UInt8, d ≠ 45 → digB d = false → c ≠ d := fun d h1 h2 e => by
    rcases h with h | h
    · exact h1 (e.symm.trans h)
    · rw [e, h2] at h; cases h
  rw [valP, if_neg (k 110 (by decide) (by decide)), if_neg (k 116 (by decide) (by decide)), if_neg (k 102 (by decide) (by decide)), if_neg (k 34 (by decide) (by decide)), if_neg (k 91 (by decide) (by decide)), if_neg (k 123 (by decide) (by decide)), if_pos h]
theorem putAll_self {fs : List F} (h : Srt fs) : putAll [] fs = fs :=
  (sorted_put (List.Perm.refl fs) (h.imp (fun {a b} h => by omega)) (h.imp (fun {a b} h => lt_ne h))).symm
theorem quo_cons (l t : List UInt8) : quoL l ++ t = 34 :: (escL l ++ 34 :: t) := by simp [quoL]
mutual
theorem back : ∀ (x : V) (f : Nat) (t : List UInt8), chkV x = 0 → Stp t → 2 * (wrV x ++ t).length + 1 ≤ f → valP f (wrV x ++ t) = .ok x t
  | .mk _ _ _ _ _, 0, _, _, _, h => by omega
  | .mk k n s is fs, f + 1, t, hx, ht, hf => by
    have hL := backL is f [] t
    have hF := backF fs f [] t
    obtain ⟨_, g2, g3, g4⟩ := flat_is hx
    obtain ⟨a1, a2, a3, a4⟩ := chkV_ok hx
    obtain ⟨hk, _⟩ := ownF_ok a1
    have hcase : k = 0 ∨ k = 1 ∨ k = 2 ∨ k = 3 ∨ k = 4 ∨ k = 5 := by omega
    rcases hcase with rfl | rfl | rfl | rfl | rfl | rfl
    · have e1 := flat_zero hx (by decide) (by decide)
      have e2 := g2 (by decide)
      have e3 := g3 (by decide)
      have e4 := g4 (by decide)
      subst e1 e2 e3 e4
      rw [wrV, if_pos rfl]
      show valP (f + 1) (110 :: 117 :: 108 :: 108 :: t) = _
      rw [valP, if_pos rfl]
      simp [wordP, signP, Res.bind, V0]
    · have e2 := g2 (by decide)
      have e3 := g3 (by decide)
      have e4 := g4 (by decide)
      subst e2 e3 e4
      rw [wrV, if_neg (by decide), if_pos rfl]
      rcases bool_range hx with rfl | rfl
      · rw [if_neg (by decide)]
        show valP (f + 1) (102 :: 97 :: 108 :: 115 :: 101 :: t) = _
        rw [valP, if_neg (by decide), if_neg (by decide), if_pos rfl]
        simp [wordP, signP, Res.bind]
      · rw [if_pos rfl]
        show valP (f + 1) (116 :: 114 :: 117 :: 101 :: t) = _
        rw [valP, if_neg (by decide), if_pos rfl]
        simp [wordP, signP, Res.bind]
    · have e2 := g2 (by decide)
      have e3 := g3 (by decide)
      have e4 := g4 (by decide)
      subst e2 e3 e4
      have hn := num_range hx
      have hb := numP_back hn.1 hn.2 ht
      obtain ⟨c, q, hc, hd⟩ := num_head n
      rw [wrV, if_neg (by decide), if_neg (by decide), if_pos rfl]
      rw [hc, List.cons_append] at hb ⊢
      rw [valP_num hd, hb]
      rfl
    · have e1 := flat_zero hx (by decide) (by decide)
      have e3 := g3 (by decide)
      have e4 := g4 (by decide)
      subst e1 e3 e4
      have hb := textP_back (t := t) (text_seen hx)
      rw [wrV, if_neg (by decide), if_neg (by decide), if_neg (by decide), if_pos rfl]
      rw [quo_cons] at hb ⊢
      rw [valP, if_neg (by decide), if_neg (by decide), if_neg (by decide), if_pos rfl, hb]
      simp only [Res.bind, txtV, stB_self]
    · have e1 := flat_zero hx (by decide) (by decide)
      have e2 := g2 (by decide)
      have e4 := g4 (by decide)
      subst e1 e2 e4
      have e : wrV (.mk 4 0 ByteArray.empty is []) ++ t = 91 :: (commaL (wrL is) ++ 93 :: t) := by
        rw [wrV, if_neg (by decide), if_neg (by decide), if_neg (by decide), if_neg (by decide), if_pos rfl]; simp
      rw [e] at hf ⊢
      rw [List.length_cons] at hf
      rw [valP, if_neg (by decide), if_neg (by decide), if_neg (by decide), if_neg (by decide), if_pos rfl]
      cases is with
      | nil =>
        have e9 : skipW (93 :: t) = 93 :: t := by rw [skipW, if_neg (by decide)]
        simp only [wrL, commaL, List.nil_append, e9]
        rfl
      | cons x r =>
        have h1 := hL a2 (by simp) (by omega)
        obtain ⟨c, q, hc, hbl, h93, _⟩ := wr_head x
        rw [wrL, comma_run, List.append_assoc, hc, List.cons_append] at h1 ⊢
        rw [skipW, if_neg (by rw [hbl]; simp)]
        simp only
        rw [if_neg h93, h1]
        rfl
    · have e1 := flat_zero hx (by decide) (by decide)
      have e2 := g2 (by decide)
      have e3 := g3 (by decide)
      subst e1 e2 e3
      have e : wrV (.mk 5 0 ByteArray.empty [] fs) ++ t = 123 :: (commaL (wrF fs) ++ 125 :: t) := by
        rw [wrV, if_neg (by decide), if_neg (by decide), if_neg (by decide), if_neg (by decide), if_neg (by decide)]; simp
      have hs := name_seen hx
      rw [e] at hf ⊢
      rw [List.length_cons] at hf
      rw [valP, if_neg (by decide), if_neg (by decide), if_neg (by decide), if_neg (by decide), if_neg (by decide), if_pos rfl]
      cases fs with
      | nil =>
        have e9 : skipW (125 :: t) = 125 :: t := by rw [skipW, if_neg (by decide)]
        simp only [wrF, commaL, List.nil_append, e9]
        rfl
      | cons g r =>
        have h1 := hF a4 hs a3 (by simp) (by omega)
        have h2 := putAll_self a3
        obtain ⟨nm, x⟩ := g
        rw [wrF, comma_run, List.append_assoc, List.append_assoc, quo_cons] at h1 ⊢
        rw [skipW, if_neg (by decide)]
        simp only
        rw [if_neg (by decide), h1]
        simp only [Res.bind, List.nil_append]
        rw [h2]; rfl
theorem backL : ∀ (l : List V) (f : Nat) (acc : List V) (t : List UInt8), (∀ x ∈ l, chkV x = 0) → l ≠ [] → 2 * (commaL (wrL l) ++ 93 :: t).length + 2 ≤ f → elsP f acc (commaL (wrL l) ++ 93 :: t) = .ok (acc ++ l) t
  | [], _, _, _, _, h, _ => absurd rfl h
  | _ :: _, 0, _, _, _, _, h => by omega
  | x :: r, f + 1, acc, t, h, _, hf => by
    have hx := back x f (runL (wrL r) ++ 93 :: t) (h x (by simp)) (run_stop _ _ (by decide) (by decide))
    have hr := backL r f (acc ++ [x]) t (fun y hy => h y (by simp [hy]))
    rw [wrL, comma_run, List.append_assoc] at hf ⊢
    rw [elsP, hx (by omega)]
    simp only
    cases r with
    | nil =>
      simp only [wrL, runL, List.nil_append, more_end (show blankB 93 = false by decide) (show (93 : UInt8) ≠ 44 by decide)]
    | cons y q =>
      rw [wrL, runL_cons] at hf ⊢
      rw [more_go (skip_wr _ _)]
      simp only
      have h2 := hr (by simp)
      rw [wrL, comma_run, List.append_assoc] at h2
      rw [h2 (by simp only [List.length_append, List.length_cons] at hf ⊢; omega)]
      simp
theorem backF : ∀ (l : List F) (f : Nat) (acc : List F) (t : List UInt8), (∀ x ∈ l, chkV (vlF x) = 0) → (∀ x ∈ l, (nmF x).data.toList.all seenC = true) → Srt (acc ++ l) → l ≠ [] → 2 * (commaL (wrF l) ++ 125 :: t).length + 2 ≤ f → fldP f acc (commaL (wrF l) ++ 125 :: t) = .ok (acc ++ l) t
  | [], _, _, _, _, _, _, h, _ => absurd rfl h
  | _ :: _, 0, _, _, _, _, _, _, h => by omega
  | .mk nm x :: r, f + 1, acc, t, h, hn, hs, _, hf => by
    have hx := back x f (runL (wrF r) ++ 125 :: t) (h (.mk nm x) (by simp)) (run_stop _ _ (by decide) (by decide))
    have hr := backF r f (acc ++ [.mk nm x]) t (fun y hy => h y (by simp [hy])) (fun y hy => hn y (by simp [hy])) (by simpa using hs)
    have hlk : lk acc nm = none := lk_none (fun g hg => by
      have h1 := (List.pairwise_append.1 hs).2.2 g hg (.mk nm x) (by simp)
      exact lt_ne h1)
    have ht := textP_back (t := 58 :: (wrV x ++ (runL (wrF r) ++ 125 :: t))) (hn (.mk nm x) (by simp))
    rw [wrF, comma_run, List.append_assoc, List.append_assoc, List.cons_append] at hf ⊢
    have hlen : (quoL nm.data.toList ++ 58 :: (wrV x ++ (runL (wrF r) ++ 125 :: t))).length = (quoL nm.data.toList).length + 1 + (wrV x ++ (runL (wrF r) ++ 125 :: t)).length := by rw [List.length_append, List.length_cons]; omega
    rw [hlen] at hf
    rw [fldP, show nmF (.mk nm x) = nm from rfl] at *
    rw [ht]
    simp only
    rw [stB_self, hlk, if_neg (by simp), skipW, if_neg (by decide), signP, if_pos rfl]
    simp only
    rw [skip_wr, hx (by omega)]
    simp only
    cases r with
    | nil =>
      simp only [wrF, runL, List.nil_append, more_end (show blankB 125 = false by decide) (show (125 : UInt8) ≠ 44 by decide)]
    | cons g q =>
      obtain ⟨nm2, y⟩ := g
      have h2 := hr (by simp)
      have hl2 : (commaL (wrF (.mk nm2 y :: q)) ++ 125 :: t).length + 1 ≤ (runL (wrF (.mk nm2 y :: q)) ++ 125 :: t).length := by
        rw [wrF, comma_run, runL]; simp
      have e9 : (wrV x ++ (runL (wrF (.mk nm2 y :: q)) ++ 125 :: t)).length = (wrV x).length + (runL (wrF (.mk nm2 y :: q)) ++ 125 :: t).length := List.length_append
      have h3 := h2 (by rw [e9] at hf; omega)
      rw [wrF, comma_run] at h3
      rw [wrF, runL_cons, ← List.append_assoc, more_go (by rw [List.append_assoc, List.append_assoc, quo_cons, skipW, if_neg (by decide)])]
      simp only
      rw [h3]
      simp
end
/-- what Show wrote, Read reads -/
theorem read_back {x : V} (h : chkF x = 0) (hl : (wrV x).length ≤ 20000) : readF (wrV x) = (x, 0, 0) := by
  have h1 := back x (2 * (wrV x).length + 2) [] (chkF_chkV h) stp_nil (by rw [List.append_nil]; omega)
  have h2 := skip_wr x []
  rw [List.append_nil] at h1 h2
  unfold readF allP
  rw [if_neg (by omega), h2, h1]
  simp [Res.bind, skipW, h]
theorem shw_back {x : V} (h : (shwF x).2 = 0) : readF (shwF x).1 = (x, 0, 0) := by
  unfold shwF at h ⊢
  by_cases h1 : chkF x ≠ 0
  · rw [if_pos h1] at h; exact absurd h h1
  rw [if_neg h1] at h ⊢
  by_cases h2 : 20000 < (wrV x).length
  · rw [if_pos h2] at h; cases h
  rw [if_neg h2] at h ⊢
  exact read_back (Classical.not_not.1 h1) (by omega)
theorem shw_ok {x : V} (h : chkF x = 0) : (shwF x).2 = 0 ∨ (shwF x).2 = 2 := by
  unfold shwF
  rw [if_neg (by simp [h])]
  split
  · exact .inr rfl
  · exact .inl rfl
end Fd
end Go.Proofs.YtbhcfmdogdaodaaDoor
namespace Go.Proofs.YtbhcfmdogdaodaaDoor
namespace Fd
open _root_.Go.Proofs.YtbhcfmdogdaodaaDoor.Tx _root_.Go.Proofs.YtbhcfmdogdaodaaDoor.Nm
theorem pNL_snoc : ∀ (l : List V) (x : V), pNL (l ++ [x]) = pNL l + pN x
  | [], x => by simp [pNL]
  | y :: r, x => by rw [List.cons_append, pNL, pNL, pNL_snoc r x]; omega
theorem pNF_snoc : ∀ (l : List F) (nm : ByteArray) (x : V), pNF (l ++ [.mk nm x]) = pNF l + pN x
  | [], nm, x => by simp [pNF]
  | .mk a y :: r, nm, x => by rw [List.cons_append, pNF, pNF, pNF_snoc r nm x]; omega
theorem pN_flat (k n : Int) (s : ByteArray) : pN (.mk k n s [] []) = 1 := by simp [pN, pNL, pNF]
mutual
theorem valP_pN : ∀ (f : Nat) (l : List UInt8) {v : V} {r : List UInt8}, valP f l = .ok v r → pN v + r.length ≤ 1 + l.length
  | 0, _, _, _, h => by rw [valP] at h; cases h
  | f + 1, [], v, r, h => by rw [valP] at h; cases h
  | f + 1, c :: l, v, r, h => by
    rw [valP] at h
    split at h
    · obtain ⟨u, q, h1, h2⟩ := bind_ok h
      have := wordP_len _ _ h1
      cases h2
      rw [show V0 = .mk 0 0 ByteArray.empty [] [] from rfl, pN_flat]; omega
    split at h
    · obtain ⟨u, q, h1, h2⟩ := bind_ok h
      have := wordP_len _ _ h1
      cases h2
      rw [pN_flat]; omega
    split at h
    · obtain ⟨u, q, h1, h2⟩ := bind_ok h
      have := wordP_len _ _ h1
      cases h2
      rw [pN_flat]; omega
    split at h
    · obtain ⟨u, q, h1, h2⟩ := bind_ok h
      have := textP_len h1
      cases h2
      rw [txtV, pN_flat]; omega
    split at h
    · have a0 := skipW_len l
      rw [List.length_cons]
      cases hs : skipW l with
      | nil =>
        rw [hs] at h
        obtain ⟨u, q, h1, h2⟩ := bind_ok h
        have := elsP_pN f [] [] h1
        cases h2
        simp only [pN, pNL, pNF, List.length_nil] at this ⊢; omega
      | cons b q =>
        rw [hs] at h
        simp only at h
        rw [hs, List.length_cons] at a0
        split at h
        · cases h
          rw [pN_flat]; omega
        · obtain ⟨u, t, h1, h2⟩ := bind_ok h
          have := elsP_pN f [] (b :: q) h1
          cases h2
          simp only [pN, pNL, pNF, List.length_cons] at this ⊢; omega
    split at h
    · have a0 := skipW_len l
      rw [List.length_cons]
      cases hs : skipW l with
      | nil =>
        rw [hs] at h
        obtain ⟨u, q, h1, h2⟩ := bind_ok h
        have := fldP_pN f [] [] h1
        have h3 := pNF_putAll u []
        cases h2
        rw [pN_obj]
        simp only [pNF, List.length_nil] at this h3 ⊢; omega
      | cons b q =>
        rw [hs] at h
        simp only at h
        rw [hs, List.length_cons] at a0
        split at h
        · cases h
          rw [pN_obj, pNF]; omega
        · obtain ⟨u, t, h1, h2⟩ := bind_ok h
          have := fldP_pN f [] (b :: q) h1
          have h3 := pNF_putAll u []
          cases h2
          rw [pN_obj]
          simp only [pNF, List.length_cons] at this h3 ⊢; omega
    split at h
    · obtain ⟨u, q, h1, h2⟩ := bind_ok h
      have := numP_len h1
      cases h2
      rw [pN_flat]; omega
    · cases h
theorem elsP_pN : ∀ (f : Nat) (acc : List V) (l : List UInt8) {v : List V} {r : List UInt8}, elsP f acc l = .ok v r → pNL v + r.length ≤ pNL acc + l.length
  | 0, _, _, _, _, h => by rw [elsP] at h; cases h
  | f + 1, acc, l, v, r, h => by
    rw [elsP] at h
    cases h1 : valP f l with
    | bad q e => rw [h1] at h; cases h
    | ok x q =>
      rw [h1] at h
      simp only at h
      have a1 := valP_pN f l h1
      cases h2 : moreP 93 q with
      | bad t e => rw [h2] at h; cases h
      | ok b t =>
        rw [h2] at h
        have a2 := moreP_len h2
        cases b with
        | true =>
          have := elsP_pN f _ t h
          rw [pNL_snoc] at this
          omega
        | false => cases h; rw [pNL_snoc]; omega
theorem fldP_pN : ∀ (f : Nat) (acc : List F) (l : List UInt8) {v : List F} {r : List UInt8}, fldP f acc l = .ok v r → pNF v + r.length ≤ pNF acc + l.length
  | 0, _, _, _, _, h => by rw [fldP] at h; cases h
  | f + 1, acc, l, v, r, h => by
    rw [fldP] at h
    cases h0 : textP l with
    | bad q e => rw [h0] at h; cases h
    | ok nm q =>
      rw [h0] at h
      simp only at h
      have a0 := textP_len h0
      split at h
      · cases h
      · cases h1 : signP 58 (skipW q) with
        | bad t e => rw [h1] at h; cases h
        | ok _ t =>
          rw [h1] at h
          simp only at h
          have a1 := signP_len h1
          have a2 := skipW_len q
          cases h3 : valP f (skipW t) with
          | bad u e => rw [h3] at h; cases h
          | ok x u =>
            rw [h3] at h
            simp only at h
            have a3 := valP_pN f _ h3
            have a4 := skipW_len t
            cases h5 : moreP 125 u with
            | bad y e => rw [h5] at h; cases h
            | ok b y =>
              rw [h5] at h
              have a5 := moreP_len h5
              cases b with
              | true =>
                have := fldP_pN f _ y h
                rw [pNF_snoc] at this
                omega
              | false => cases h; rw [pNF_snoc]; omega
end
/-- what Read answers has few parts -/
theorem readF_pN (l : List UInt8) : pN (readF l).1 ≤ 20001 := by
  unfold readF
  split
  · rw [pN_zero]; omega
  · next hl =>
    cases h : allP l with
    | bad r e => show pN V0 ≤ _; rw [pN_zero]; omega
    | ok x r =>
      simp only
      split
      · rw [pN_zero]; omega
      · show pN x ≤ _
        unfold allP at h
        obtain ⟨u, q, h1, h2⟩ := bind_ok h
        have a1 := valP_pN _ _ h1
        have a2 := skipW_len l
        have : u = x := by
          cases hs : skipW q with
          | nil => rw [hs] at h2; cases h2; rfl
          | cons b t => rw [hs] at h2; cases h2
        subst this
        omega
end Fd
end Go.Proofs.YtbhcfmdogdaodaaDoor
