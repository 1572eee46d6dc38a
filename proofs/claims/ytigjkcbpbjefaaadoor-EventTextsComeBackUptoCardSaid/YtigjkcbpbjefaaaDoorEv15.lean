/- Plain: texts cut at a byte; numerals of at most 13 digits, read and written. No program stands in it. Plain: an event's text, written and read; what is read is written so, and the other way round. No program stands in it. '==' and '!=' on events. -/
import Derived.Test.YtigjkcbpbjefaaaDoorEv01
import Derived.Test.YtigjkcbpbjefaaaDoorEv00
import Derived.Lib.SplitLaws
import Derived.Lib.AtoiTie
import Derived.Lib.ItoaNum
import Derived.Test.YtigjkcbpbjefaaaDoorProg
import Derived.Test.YtigjkcbpbjefaaaDoorEv10
import Derived.Test.YtigjkcbpbjefaaaDoorEv02
import Derived.Laws.StructEq
namespace Go.Proofs.YtigjkcbpbjefaaaDoor
namespace Tx
open _root_.Go.Proofs.YtigjkcbpbjefaaaDoor.Nm
theorem joinL_cons {c b : UInt8} {x : List UInt8} {y : List (List UInt8)} : joinL c ((b :: x) :: y) = b :: joinL c (x :: y) := by
  cases y <;> rfl
theorem join_cut (c : UInt8) : ∀ l, joinL c (cutL c l) = l
  | [] => rfl
  | b :: r => by
    have ih := join_cut c r
    have hn := cutL_ne c r
    unfold cutL
    by_cases h : b = c
    · rw [if_pos h]
      cases hc : cutL c r with
      | nil => exact absurd hc hn
      | cons x y => rw [hc] at ih; show [] ++ c :: joinL c (x :: y) = _; rw [ih, h]; rfl
    · rw [if_neg h]
      cases hc : cutL c r with
      | nil => exact absurd hc hn
      | cons x y => rw [hc] at ih; show joinL c ((b :: x) :: y) = _; rw [joinL_cons, ih]
theorem num_itoa {v : Int} (h : v.natAbs < 10 ^ 13) : numO (itoaS v) = some v := numO_iff.2 ⟨rfl, h⟩
theorem itoaS_bytes {v : Int} : ∀ c ∈ itoaS v, c.toNat = 45 ∨ (48 ≤ c.toNat ∧ c.toNat ≤ 57) := by
  unfold itoaS
  split
  · intro c hc
    rcases List.mem_cons.1 hc with rfl | hc
    · exact .inl rfl
    · exact .inr (decS_digs _ c hc)
  · intro c hc
    exact .inr (decS_digs _ c hc)
end Tx
end Go.Proofs.YtigjkcbpbjefaaaDoor
namespace Go.Proofs.YtigjkcbpbjefaaaDoor
namespace Tx
open _root_.Go.Proofs.YtigjkcbpbjefaaaDoor.Nm
theorem cut_join {c : UInt8} : ∀ {l : List (List UInt8)}, l ≠ [] → (∀ x ∈ l, c ∉ x) → cutL c (joinL c l) = l
  | [], h, _ => absurd rfl h
  | [x], _, h => cutL_none (h x (by simp))
  | x :: y :: r, _, h => by
    show cutL c (x ++ c :: joinL c (y :: r)) = _
    rw [cutL_app (h x (by simp)), cut_join (by simp) (fun z hz => h z (List.mem_cons_of_mem _ hz))]
theorem read4_is {a b c d : List UInt8} {e : Ev} (h : read4 a b c d = some e) : wordsE e = [a, b, c, d] := by
  unfold read4 at h
  cases hb : numO b with
  | none => rw [hb] at h; cases h
  | some n =>
    cases hc : numO c with
    | none => rw [hb, hc] at h; cases h
    | some t =>
      rw [hb, hc] at h
      have h' : (if wordsB a = true ∧ d = markL then some (⟨bs a, n, 3, t, bs [], bs [], 0, 0⟩ : Ev) else none) = some e := h
      by_cases hq : wordsB a = true ∧ d = markL
      · rw [if_pos hq] at h'
        injection h' with h'
        subst h'
        unfold wordsE
        rw [if_neg (show ¬ (3 : Int) = 1 by decide), if_neg (show ¬ (3 : Int) = 2 by decide), ← (numO_iff.1 hb).1, ← (numO_iff.1 hc).1, hq.2]
        rfl
      · rw [if_neg hq] at h'; cases h'
theorem read7_is {a b c d k m z : List UInt8} {e : Ev} (h : read7 a b c d k m z = some e) : wordsE e = [a, b, c, d, k, m, z] := by
  unfold read7 at h
  cases hb : numO b with
  | none => rw [hb] at h; cases h
  | some n =>
    cases hc : numO c with
    | none => rw [hb, hc] at h; cases h
    | some t =>
      cases hz : numO z with
      | none => rw [hb, hc, hz] at h; cases h
      | some x =>
        rw [hb, hc, hz] at h
        have h' : (if wordsB a = true ∧ seenB k = true ∧ wordsB m = true then (if d = expL then some (⟨bs a, n, 1, t, bs k, bs m, x, 0⟩ : Ev) else if d = outL then some ⟨bs a, n, 2, t, bs k, bs m, 0, x⟩ else none) else none) = some e := h
        by_cases hq : wordsB a = true ∧ seenB k = true ∧ wordsB m = true
        · rw [if_pos hq] at h'
          by_cases hd : d = expL
          · rw [if_pos hd] at h'
            injection h' with h'
            subst h'
            unfold wordsE
            rw [if_pos rfl, ← (numO_iff.1 hb).1, ← (numO_iff.1 hc).1, ← (numO_iff.1 hz).1, hd]
            rfl
          · rw [if_neg hd] at h'
            by_cases hd2 : d = outL
            · rw [if_pos hd2] at h'
              injection h' with h'
              subst h'
              unfold wordsE
              rw [if_neg (show ¬ (2 : Int) = 1 by decide), if_pos rfl, ← (numO_iff.1 hb).1, ← (numO_iff.1 hc).1, ← (numO_iff.1 hz).1, hd2]
              rfl
            · rw [if_neg hd2] at h'; cases h'
        · rw [if_neg hq] at h'; cases h'
/-- what is read is written so -/
theorem words_read {w : List (List UInt8)} {e : Ev} (h : readW w = some e) : wordsE e = w := by
  rcases w with _ | ⟨a, _ | ⟨b, _ | ⟨c, _ | ⟨d, _ | ⟨k, _ | ⟨m, _ | ⟨z, _ | ⟨y, r⟩⟩⟩⟩⟩⟩⟩⟩
  · cases h
  · cases h
  · cases h
  · cases h
  · exact read4_is h
  · cases h
  · cases h
  · exact read7_is h
  · cases h
theorem show_read {l : List UInt8} {e : Ev} (h : readO l = some e) : showE e = l := by
  unfold showE
  rw [words_read h, join_cut]
theorem word_free {l : List UInt8} (h : l.all wordC = true) : (32 : UInt8) ∉ l := fun hm => by
  have := (List.all_eq_true.1 h) _ hm
  exact absurd this (by decide)
theorem seen_free {l : List UInt8} (h : l.all seenC = true) : (32 : UInt8) ∉ l := fun hm => by
  have := (List.all_eq_true.1 h) _ hm
  exact absurd this (by decide)
theorem itoa_free (v : Int) : (32 : UInt8) ∉ itoaS v := fun hm => by
  rcases itoaS_bytes _ hm with h | h
  · exact absurd h (by decide)
  · exact absurd h.1 (by decide)
theorem wordsE_free {e : Ev} (h : RightE e) : ∀ x ∈ wordsE e, (32 : UInt8) ∉ x := by
  have hs := word_free (name_words h.shard).2.1
  unfold wordsE
  rcases h.kind with ⟨hk, _⟩ | ⟨hk, h1, h2, _⟩ | ⟨hk, h1, h2, _⟩
  · rw [hk, if_neg (by decide), if_neg (by decide)]
    intro x hx
    simp only [List.cons_append, List.nil_append, List.mem_cons, List.not_mem_nil, or_false] at hx
    rcases hx with rfl | rfl | rfl | rfl
    · exact hs
    · exact itoa_free _
    · exact itoa_free _
    · decide
  · rw [hk, if_pos rfl]
    intro x hx
    simp only [List.cons_append, List.nil_append, List.mem_cons, List.not_mem_nil, or_false] at hx
    rcases hx with rfl | rfl | rfl | rfl | rfl | rfl | rfl
    · exact hs
    · exact itoa_free _
    · exact itoa_free _
    · decide
    · exact seen_free (key_seen h1).2.1
    · exact word_free (name_words h2).2.1
    · exact itoa_free _
  · rw [hk, if_neg (by decide), if_pos rfl]
    intro x hx
    simp only [List.cons_append, List.nil_append, List.mem_cons, List.not_mem_nil, or_false] at hx
    rcases hx with rfl | rfl | rfl | rfl | rfl | rfl | rfl
    · exact hs
    · exact itoa_free _
    · exact itoa_free _
    · decide
    · exact seen_free (key_seen h1).2.1
    · exact word_free (name_words h2).2.1
    · exact itoa_free _
/-- what is written is read so -/
theorem read_show {e : Ev} (h : RightE e) : readO (showE e) = some e := by
  unfold readO showE
  rw [cut_join (by unfold wordsE; simp) (wordsE_free h)]
  have hn := num_itoa (v := e.number) (by have := h.number; omega)
  have ht := num_itoa (v := e.time) (by have := h.time; omega)
  have hs := (name_words h.shard).1
  unfold wordsE
  rcases h.kind with ⟨hk, h1, h2, h3, h4⟩ | ⟨hk, h1, h2, h3, h4⟩ | ⟨hk, h1, h2, h3, h4⟩
  · rw [hk, if_neg (by decide), if_neg (by decide)]
    show read4 e.shard.data.toList (itoaS e.number) (itoaS e.time) markL = _
    unfold read4
    rw [hn, ht]
    show (if wordsB e.shard.data.toList = true ∧ markL = markL then _ else none) = _
    rw [if_pos ⟨hs, rfl⟩, bs_data, ← h1, ← hk]
    obtain ⟨a, b, c, d, k, m, x, y⟩ := e
    simp only at *
    subst h1; subst h2; subst h3; subst h4; rfl
  · have hx := num_itoa (v := e.arm) (by omega)
    rw [hk, if_pos rfl]
    show read7 e.shard.data.toList (itoaS e.number) (itoaS e.time) expL e.key.data.toList e.name.data.toList (itoaS e.arm) = _
    unfold read7
    rw [hn, ht, hx]
    show (if _ ∧ _ then (if expL = expL then _ else _) else none) = _
    rw [if_pos ⟨hs, (key_seen h1).1, (name_words h2).1⟩, if_pos rfl, bs_data, bs_data, bs_data]
    obtain ⟨a, b, c, d, k, m, x, y⟩ := e
    simp only at *
    subst hk; subst h4; rfl
  · have hx := num_itoa (v := e.n) (by omega)
    rw [hk, if_neg (by decide), if_pos rfl]
    show read7 e.shard.data.toList (itoaS e.number) (itoaS e.time) outL e.key.data.toList e.name.data.toList (itoaS e.n) = _
    unfold read7
    rw [hn, ht, hx]
    show (if _ ∧ _ then (if outL = expL then _ else if outL = outL then _ else _) else none) = _
    rw [if_pos ⟨hs, (key_seen h1).1, (name_words h2).1⟩, if_neg (by decide), if_pos rfl, bs_data, bs_data, bs_data]
    obtain ⟨a, b, c, d, k, m, x, y⟩ := e
    simp only at *
    subst hk; subst h3; rfl
theorem show_len {e : Ev} (h : RightE e) : (showE e).length ≤ 300 := by
  have hs := (name_words h.shard).2.2
  have hn := itoaS_length (v := e.number) (by have := h.number; omega)
  have ht := itoaS_length (v := e.time) (by have := h.time; omega)
  unfold showE wordsE
  rcases h.kind with ⟨hk, h1, h2, h3, h4⟩ | ⟨hk, h1, h2, h3, h4⟩ | ⟨hk, h1, h2, h3, h4⟩
  · rw [hk, if_neg (by decide), if_neg (by decide)]
    simp only [List.cons_append, List.nil_append, joinL, List.length_append, List.length_cons, markL, List.length_nil]
    omega
  · have hx := itoaS_length (v := e.arm) (by omega)
    have h5 := (key_seen h1).2.2
    have h6 := (name_words h2).2.2
    rw [hk, if_pos rfl]
    simp only [List.cons_append, List.nil_append, joinL, List.length_append, List.length_cons, expL]
    omega
  · have hx := itoaS_length (v := e.n) (by omega)
    have h5 := (key_seen h1).2.2
    have h6 := (name_words h2).2.2
    rw [hk, if_neg (by decide), if_pos rfl]
    simp only [List.cons_append, List.nil_append, joinL, List.length_append, List.length_cons, outL]
    omega
end Tx
end Go.Proofs.YtigjkcbpbjefaaaDoor
namespace Go.Proofs.YtigjkcbpbjefaaaDoor
open Go.RowKit
theorem neq_ev (x y : Ev) (w : World) : (binOp .neq 23 (.agg (evC x)) (.agg (evC y))).run Tryd.prog w = .ok (.bool (!decide (x = y))) w := by
  simp only [binOp]
  simp [Op.equal, Op.maxDepth, equal_ev x y w]
end Go.Proofs.YtigjkcbpbjefaaaDoor
