/- Values that are read as data. Plain: fields in order of their names: what reads under a name, a field laid in or taken out; what is wrong with a value. No program stands in it. Plain: how many parts a value has, and how many levels; what the reference counts. No program stands in it. Values that are read as data: how many parts they have, by the bulk of the datum. Numbers as lists of words of 32 bits, the least one first: plain mathematics, no program stands in it. -/
import Derived.Test.YtkjgifhklajifaaDoorDv00
import Derived.Test.YtkjgifhklajifaaDoorProg
import Derived.Test.YtkjgifhklajifaaDoorRows
import Derived.Lib.Hide
namespace Go.Proofs.YtkjgifhklajifaaDoor
open Go.RowKit
theorem cells_api_Value : Tryd.prog.cellsOf 25 = 5 := by kernel_rfl
theorem cells_api_Field : Tryd.prog.cellsOf 44 = 6 := by kernel_rfl
theorem cells_int : Tryd.prog.cellsOf 3 = 1 := by kernel_rfl
theorem cells_string : Tryd.prog.cellsOf 9 = 1 := by kernel_rfl
theorem cells_api_Values : Tryd.prog.cellsOf 22 = 1 := by kernel_rfl
theorem cells_api_Fields : Tryd.prog.cellsOf 23 = 1 := by kernel_rfl

theorem len5 {l : List Value} (h : l.length = 5) : ∃ a b c d e, l = [a, b, c, d, e] := by
  match l, h with
  | [a, b, c, d, e], _ => exact ⟨a, b, c, d, e, rfl⟩
theorem len6 {l : List Value} (h : l.length = 6) : ∃ a r, l = a :: r ∧ r.length = 5 := by
  match l, h with
  | a :: r, h => exact ⟨a, r, rfl, by simpa using h⟩

section
variable {H : Type} {enc : TypeId × Value → H} {W : World} {spare : Nat → Bool} {held : Bool}
end
end Go.Proofs.YtkjgifhklajifaaDoor
namespace Go.Proofs.YtkjgifhklajifaaDoor
namespace Fd
def nmF : F → ByteArray
  | .mk a _ => a
def vlF : F → V
  | .mk _ x => x
theorem eta (f : F) : f = .mk (nmF f) (vlF f) := by cases f; rfl
def kind : V → Int
  | .mk k _ _ _ _ => k
def items : V → List V
  | .mk _ _ _ is _ => is
def fields : V → List F
  | .mk _ _ _ _ fs => fs
/-- the value of kind None; an object -/
def V0 : V := .mk 0 0 ByteArray.empty [] []
def obj (fs : List F) : V := .mk 5 0 ByteArray.empty [] fs
/-- fields in order -/
def Srt (l : List F) : Prop := l.Pairwise (fun a b => cmpS (nmF a) (nmF b) < 0)
theorem lt_trans {a b c : ByteArray} (h : cmpS a b < 0) (k : cmpS b c < 0) : cmpS a c < 0 := by
  have h1 := cmpS_trans (a := a) (b := b) (c := c) (by omega) (by omega)
  by_cases h2 : cmpS a c = 0
  · have h3 := cmpS_anti a c
    have h4 := cmpS_trans (a := b) (b := c) (c := a) (by omega) (by omega)
    have h5 := cmpS_anti a b
    omega
  · omega
theorem lt_ne {a b : ByteArray} (h : cmpS a b < 0) : a ≠ b := fun e => by rw [e, cmpS_self] at h; omega
/-- what reads under a name -/
def lk : List F → ByteArray → Option V
  | [], _ => none
  | f :: r, nm => if nmF f = nm then some (vlF f) else lk r nm
theorem lk_none {l : List F} {m : ByteArray} (h : ∀ f ∈ l, nmF f ≠ m) : lk l m = none := by
  induction l with
  | nil => rfl
  | cons f r ih =>
    unfold lk
    rw [if_neg (h f (by simp))]
    exact ih (fun g hg => h g (by simp [hg]))
theorem lk_mem {l : List F} {m : ByteArray} {x : V} (h : lk l m = some x) : .mk m x ∈ l := by
  induction l with
  | nil => cases h
  | cons f r ih =>
    unfold lk at h
    split at h
    · next e =>
      injection h with h
      rw [← e, ← h, ← eta]; simp
    · exact List.mem_cons_of_mem _ (ih h)
theorem lk_isSome {l : List F} {m : ByteArray} : (∃ f ∈ l, nmF f = m) ↔ ∃ x, lk l m = some x := by
  constructor
  · rintro ⟨f, hf, rfl⟩
    cases h : lk l (nmF f) with
    | some x => exact ⟨x, rfl⟩
    | none =>
      exfalso
      induction l with
      | nil => cases hf
      | cons g r ih =>
        unfold lk at h
        split at h
        · cases h
        · next e =>
          rcases List.mem_cons.1 hf with rfl | hf
          · exact e rfl
          · exact ih hf h
  · rintro ⟨x, hx⟩
    exact ⟨_, lk_mem hx, rfl⟩
/-- fields in order are those that read alike -/
theorem srt_ext : ∀ {l l' : List F}, Srt l → Srt l' → (∀ m, lk l m = lk l' m) → l = l'
  | [], [], _, _, _ => rfl
  | [], g :: r, _, _, h => by have := h (nmF g); unfold lk at this; rw [if_pos rfl] at this; cases this
  | f :: r, [], _, _, h => by have := h (nmF f); unfold lk at this; rw [if_pos rfl] at this; cases this
  | f :: r, g :: r', hs, hs', h => by
    obtain ⟨h1, h2⟩ := List.pairwise_cons.1 hs
    obtain ⟨h3, h4⟩ := List.pairwise_cons.1 hs'
    have a1 : lk (g :: r') (nmF f) = some (vlF f) := by rw [← h, lk, if_pos rfl]
    have a2 : lk (f :: r) (nmF g) = some (vlF g) := by rw [h, lk, if_pos rfl]
    have hn : nmF f = nmF g := Classical.byContradiction fun hne => by
      have b1 := lk_mem a1
      have b2 := lk_mem a2
      rcases List.mem_cons.1 b1 with e | b1
      · exact hne (by rw [← e]; rfl)
      rcases List.mem_cons.1 b2 with e | b2
      · exact hne (by rw [← e]; rfl)
      have c1 : cmpS (nmF g) (nmF f) < 0 := h3 (.mk (nmF f) (vlF f)) b1
      have c2 : cmpS (nmF f) (nmF g) < 0 := h1 (.mk (nmF g) (vlF g)) b2
      have := cmpS_anti (nmF f) (nmF g)
      omega
    have hv : vlF f = vlF g := by
      rw [lk, if_pos hn.symm] at a1
      injection a1 with a1
      exact a1.symm
    have hfg : f = g := by rw [eta f, eta g, hn, hv]
    subst hfg
    congr 1
    refine srt_ext h2 h4 (fun m => ?_)
    have hm := h m
    unfold lk at hm
    by_cases e : nmF f = m
    · subst e
      rw [lk_none (fun q hq => (lt_ne (h1 q hq)).symm), lk_none (fun q hq => (lt_ne (h3 q hq)).symm)]
    · rw [if_neg e, if_neg e] at hm
      exact hm
def dropF (nm : ByteArray) (l : List F) : List F := l.filter (fun f => decide (nmF f ≠ nm))
def putF (nm : ByteArray) (x : V) : List F → List F
  | [] => [.mk nm x]
  | f :: r => if cmpS nm (nmF f) < 0 then .mk nm x :: f :: r else if nm = nmF f then .mk nm x :: r else f :: putF nm x r
theorem srt_drop {l : List F} (h : Srt l) (nm : ByteArray) : Srt (dropF nm l) := h.filter _
theorem lk_drop (l : List F) (nm m : ByteArray) : lk (dropF nm l) m = if nm = m then none else lk l m := by
  induction l with
  | nil => unfold dropF; simp [lk]
  | cons f r ih =>
    unfold dropF at ih ⊢
    rw [List.filter_cons]
    by_cases h : nmF f = nm
    · rw [if_neg (by simp [h]), ih]
      by_cases e : nm = m
      · rw [if_pos e, if_pos e]
      · rw [if_neg e, if_neg e, lk, if_neg (by rw [h]; exact e)]
    · rw [if_pos (by simp [h]), lk, ih]
      by_cases e : nm = m
      · subst e
        rw [if_neg h, if_pos rfl, if_pos rfl]
      · rw [if_neg e, if_neg e, lk]
theorem mem_put {nm : ByteArray} {x : V} {l : List F} {f : F} (h : f ∈ putF nm x l) : f = .mk nm x ∨ f ∈ l := by
  induction l with
  | nil => unfold putF at h; exact .inl (by simpa using h)
  | cons g r ih =>
    unfold putF at h
    split at h
    · rcases List.mem_cons.1 h with h | h
      · exact .inl h
      · exact .inr h
    · split at h
      · rcases List.mem_cons.1 h with h | h
        · exact .inl h
        · exact .inr (List.mem_cons_of_mem _ h)
      · rcases List.mem_cons.1 h with h | h
        · exact .inr (by rw [h]; simp)
        · rcases ih h with h | h
          · exact .inl h
          · exact .inr (List.mem_cons_of_mem _ h)
theorem srt_put {l : List F} (h : Srt l) (nm : ByteArray) (x : V) : Srt (putF nm x l) := by
  induction l with
  | nil => unfold putF; exact List.pairwise_singleton _ _
  | cons g r ih =>
    obtain ⟨h1, h2⟩ := List.pairwise_cons.1 h
    unfold putF
    by_cases h3 : cmpS nm (nmF g) < 0
    · rw [if_pos h3]
      refine List.pairwise_cons.2 ⟨fun q hq => ?_, h⟩
      rcases List.mem_cons.1 hq with rfl | hq
      · exact h3
      · exact lt_trans h3 (h1 q hq)
    · rw [if_neg h3]
      by_cases h4 : nm = nmF g
      · rw [if_pos h4]
        refine List.pairwise_cons.2 ⟨fun q hq => ?_, h2⟩
        show cmpS nm (nmF q) < 0
        rw [h4]; exact h1 q hq
      · rw [if_neg h4]
        refine List.pairwise_cons.2 ⟨fun q hq => ?_, ih h2⟩
        rcases mem_put hq with rfl | hq
        · show cmpS (nmF g) nm < 0
          have := cmpS_anti nm (nmF g)
          by_cases h5 : cmpS nm (nmF g) = 0
          · exact absurd (cmpS_zero h5) h4
          · omega
        · exact h1 q hq
theorem lk_put {l : List F} (h : Srt l) (nm m : ByteArray) (x : V) : lk (putF nm x l) m = if nm = m then some x else lk l m := by
  induction l with
  | nil => unfold putF lk; rfl
  | cons g r ih =>
    obtain ⟨h1, h2⟩ := List.pairwise_cons.1 h
    unfold putF
    by_cases h3 : cmpS nm (nmF g) < 0
    · rw [if_pos h3, lk]; rfl
    · rw [if_neg h3]
      by_cases h4 : nm = nmF g
      · rw [if_pos h4, lk]
        by_cases e : nm = m
        · rw [if_pos e]
          show (if nm = m then _ else _) = _
          rw [if_pos e]; rfl
        · rw [if_neg e]
          show (if nm = m then _ else _) = _
          rw [if_neg e, lk, if_neg (by rw [← h4]; exact e)]
      · rw [if_neg h4, lk, ih h2]
        by_cases e : nm = m
        · subst e
          rw [if_neg (fun e => h4 e.symm), if_pos rfl, if_pos rfl]
        · rw [if_neg e, if_neg e, lk]
/-- fields put in, one after the other -/
def putAll (out : List F) (us : List F) : List F := us.foldl (fun o f => putF (nmF f) (vlF f) o) out
theorem srt_putAll : ∀ {us out : List F}, Srt out → Srt (putAll out us)
  | [], _, h => h
  | _f :: r, _out, h => srt_putAll (us := r) (srt_put h _ _)
theorem lk_putAll : ∀ {us out : List F} {m : ByteArray}, Srt out → (us.Pairwise fun a b => nmF a ≠ nmF b) → lk (putAll out us) m = match lk us m with | some x => some x | none => lk out m
  | [], _, _, _, _ => rfl
  | f :: r, out, m, h, hp => by
    obtain ⟨h1, h2⟩ := List.pairwise_cons.1 hp
    show lk (putAll (putF (nmF f) (vlF f) out) r) m = _
    rw [lk_putAll (srt_put h _ _) h2, lk_put h, lk]
    by_cases e : nmF f = m
    · subst e
      rw [if_pos rfl, if_pos rfl, lk_none (fun q hq => (h1 q hq).symm)]
    · rw [if_neg e, if_neg e]
/-- what is wrong with a value -/
def seenC (c : UInt8) : Bool := decide (32 ≤ c.toNat) && decide (c.toNat ≤ 126)
def seenB (s : ByteArray) : Bool := s.data.toList.all seenC
def spareB (k n : Int) (s : ByteArray) (ni nf : Nat) : Bool := (decide (n ≠ 0) && decide (k ≠ 1) && decide (k ≠ 2)) || (decide (s.size ≠ 0) && decide (k ≠ 3)) || (decide (0 < ni) && decide (k ≠ 4)) || (decide (0 < nf) && decide (k ≠ 5))
/-- what is wrong with a value but for those within it -/
def ownF (k n : Int) (s : ByteArray) (ni nf : Nat) : Int :=
  if k < 0 ∨ 5 < k then 4 else if spareB k n s ni nf = true then 3 else if k = 1 ∧ n ≠ 0 ∧ n ≠ 1 ∨ k = 2 ∧ (n ≤ -1000000000000000 ∨ 1000000000000000 ≤ n) then 1 else if 500 < s.size then 2 else if seenB s = false then 1 else if 100 < ni ∨ 100 < nf then 2 else 0
def nameBad (s : ByteArray) : Bool := decide (s.size = 0) || decide (60 < s.size) || !seenB s
def ordBad : Option ByteArray → ByteArray → Bool
  | none, _ => false
  | some q, nm => decide (cmpS nm q ≤ 0)
mutual
def chkV : V → Int
  | .mk k n s is fs => if ownF k n s is.length fs.length ≠ 0 then ownF k n s is.length fs.length else if chkL is ≠ 0 then chkL is else chkFs none fs
def chkL : List V → Int
  | [] => 0
  | x :: r => if chkV x ≠ 0 then chkV x else chkL r
def chkFs : Option ByteArray → List F → Int
  | _, [] => 0
  | p, .mk nm x :: r => if nameBad nm = true then 5 else if ordBad p nm = true then 8 else if chkV x ≠ 0 then chkV x else chkFs (some nm) r
end
end Fd
end Go.Proofs.YtkjgifhklajifaaDoor
namespace Go.Proofs.YtkjgifhklajifaaDoor
namespace Fd
mutual
def pN : V → Nat
  | .mk _ _ _ is fs => 1 + pNL is + pNF fs
def pNL : List V → Nat
  | [] => 0
  | x :: r => pN x + pNL r
def pNF : List F → Nat
  | [] => 0
  | .mk _ x :: r => pN x + pNF r
end
/- levels, in 64 bits -/
mutual
def cW : V → Int
  | .mk _ _ _ is fs => IntKind.i64.wrap (max (cWL is) (cWF fs) + 1)
def cWL : List V → Int
  | [] => 0
  | x :: r => max (cW x) (cWL r)
def cWF : List F → Int
  | [] => 0
  | .mk _ x :: r => max (cW x) (cWF r)
end
mutual
def lv : V → Nat
  | .mk _ _ _ is fs => 1 + max (lvL is) (lvF fs)
def lvL : List V → Nat
  | [] => 0
  | x :: r => max (lv x) (lvL r)
def lvF : List F → Nat
  | [] => 0
  | .mk _ x :: r => max (lv x) (lvF r)
end
theorem pN_pos (v : V) : 1 ≤ pN v := by cases v; unfold pN; omega
mutual
theorem lv_le : ∀ v : V, lv v ≤ pN v
  | .mk _ _ _ is fs => by
    have h1 := lvL_le is
    have h2 := lvF_le fs
    unfold lv pN; omega
theorem lvL_le : ∀ l : List V, lvL l ≤ pNL l
  | [] => by unfold lvL pNL; omega
  | x :: r => by
    have h1 := lv_le x
    have h2 := lvL_le r
    unfold lvL pNL; omega
theorem lvF_le : ∀ l : List F, lvF l ≤ pNF l
  | [] => by unfold lvF pNF; omega
  | .mk _ x :: r => by
    have h1 := lv_le x
    have h2 := lvF_le r
    unfold lvF pNF; omega
end
mutual
theorem cW_is : ∀ v : V, pN v ≤ 1000000000 → cW v = (lv v : Int)
  | .mk _ _ _ is fs, h => by
    unfold pN at h
    have h1 := cWL_is is (by omega)
    have h2 := cWF_is fs (by omega)
    have h3 := lvL_le is
    have h4 := lvF_le fs
    unfold cW lv
    rw [h1, h2, IntKind.wrap_i64]
    omega
theorem cWL_is : ∀ l : List V, pNL l ≤ 1000000000 → cWL l = (lvL l : Int)
  | [], _ => by unfold cWL lvL; rfl
  | x :: r, h => by
    unfold pNL at h
    have h1 := cW_is x (by omega)
    have h2 := cWL_is r (by omega)
    unfold cWL lvL
    rw [h1, h2]; omega
theorem cWF_is : ∀ l : List F, pNF l ≤ 1000000000 → cWF l = (lvF l : Int)
  | [], _ => by unfold cWF lvF; rfl
  | .mk _ x :: r, h => by
    unfold pNF at h
    have h1 := cW_is x (by omega)
    have h2 := cWF_is r (by omega)
    unfold cWF lvF
    rw [h1, h2]; omega
end
/-- what Check says of a value: too many parts or levels, or what is wrong with a part -/
def chkF (v : V) : Int := if 1000 < IntKind.i64.wrap (pN v : Int) ∨ 8 < cW v then 2 else chkV v
/-- is a value too large at a level? -/
def bigAt (level : Nat) (v : V) : Prop := 8 < level - 1 + lv v ∨ 1000 < pN v
/-- what the reference counts of a value at a level: n parts, d: one is too deep -/
def RefP (level : Nat) (v : V) (n : Int) (d : Bool) : Prop := ((d = true ∨ 1000 < n) ↔ bigAt level v) ∧ (¬ (d = true ∨ 1000 < n) → n = pN v) ∧ 1 ≤ n ∧ n ≤ pN v
theorem chkF_is {v : V} (h : pN v ≤ 1000000000) {n : Int} {d : Bool} (hr : RefP 1 v n d) : chkF v = if d = true ∨ 1000 < n then 2 else chkV v := by
  have h1 : (1000 < IntKind.i64.wrap (pN v : Int) ∨ 8 < cW v) ↔ bigAt 1 v := by
    rw [cW_is v h, IntKind.wrap_i64]
    unfold bigAt
    omega
  unfold chkF
  by_cases hb : bigAt 1 v
  · rw [if_pos (h1.2 hb), if_pos (hr.1.2 hb)]
  · rw [if_neg (fun e => hb (h1.1 e)), if_neg (fun e => hb (hr.1.1 e))]
/-- the values within a value -/
def inner (v : V) : List V := items v ++ (fields v).map vlF
theorem pNL_append (a b : List V) : pNL (a ++ b) = pNL a + pNL b := by
  induction a with
  | nil => unfold pNL; simp
  | cons x r ih => rw [List.cons_append, pNL, pNL, ih]; omega
theorem lvL_append (a b : List V) : lvL (a ++ b) = max (lvL a) (lvL b) := by
  induction a with
  | nil => simp [lvL]
  | cons x r ih => rw [List.cons_append, lvL, lvL, ih]; omega
theorem pNF_map (l : List F) : pNF l = pNL (l.map vlF) := by
  induction l with
  | nil => simp [pNF, pNL]
  | cons f r ih => cases f; rw [List.map_cons, pNL, pNF, ih]; rfl
theorem lvF_map (l : List F) : lvF l = lvL (l.map vlF) := by
  induction l with
  | nil => simp [lvF, lvL]
  | cons f r ih => cases f; rw [List.map_cons, lvL, lvF, ih]; rfl
theorem pN_inner (v : V) : pN v = 1 + pNL (inner v) := by
  obtain ⟨k, n, s, is, fs⟩ := v
  show pN (.mk k n s is fs) = 1 + pNL (is ++ fs.map vlF)
  rw [pN, pNL_append, ← pNF_map]; omega
theorem lv_inner (v : V) : lv v = 1 + lvL (inner v) := by
  obtain ⟨k, n, s, is, fs⟩ := v
  show lv (.mk k n s is fs) = 1 + lvL (is ++ fs.map vlF)
  rw [lv, lvL_append, ← lvF_map]
/-- what holds of the count when the first values within have been looked at -/
structure CntI (level : Nat) (v : V) (done : List V) (n : Int) (d : Bool) : Prop where
  big : (d = true ∨ 1000 < n) → bigAt level v
  ok : ¬ (d = true ∨ 1000 < n) → n = 1 + (pNL done : Int) ∧ level ≤ 8 ∧ level + lvL done ≤ 8
  lo : 1 ≤ n
  hi : n ≤ 1 + (pNL done : Int)
theorem CntI.start {level : Nat} {v : V} (h : 1 ≤ level) : CntI level v [] 1 (decide (8 < level)) := by
  have h1 := lv_inner v
  refine ⟨fun h2 => ?_, fun h2 => ?_, by omega, by simp [pNL]⟩
  · rcases h2 with h2 | h2
    · have := of_decide_eq_true h2
      left; omega
    · omega
  · have h3 : ¬ 8 < level := fun e => h2 (.inl (decide_eq_true e))
    simp only [pNL, lvL]
    omega
theorem pNL_mem : ∀ {l : List V} {x : V}, x ∈ l → pN x ≤ pNL l ∧ lv x ≤ lvL l
  | [], _, h => by cases h
  | y :: r, x, h => by
    unfold pNL lvL
    rcases List.mem_cons.1 h with rfl | h
    · omega
    · have := pNL_mem h
      omega
theorem CntI.step {level : Nat} {v x : V} {done rest : List V} {n m : Int} {d e : Bool} (hin : inner v = done ++ x :: rest) (h : CntI level v done n d) (hn : ¬ (d = true ∨ 1000 < n)) (hl : 1 ≤ level) (hx : RefP (level + 1) x m e) : CntI level v (done ++ [x]) (n + m) (d || e) := by
  obtain ⟨k1, k2, k3⟩ := h.ok hn
  obtain ⟨r1, r2, r3, r4⟩ := hx
  have hd : d = false := by cases d; rfl; exact absurd (.inl rfl) hn
  subst hd
  have hp := pN_inner v
  have hv := lv_inner v
  rw [hin, pNL_append] at hp
  rw [hin, lvL_append] at hv
  simp only [pNL] at hp
  simp only [lvL] at hv
  have hpd : pNL (done ++ [x]) = pNL done + pN x := by rw [pNL_append]; simp [pNL]
  have hld : lvL (done ++ [x]) = max (lvL done) (lv x) := by rw [lvL_append]; simp [lvL]
  refine ⟨fun hb => ?_, fun hb => ?_, by omega, by rw [hpd]; omega⟩
  · unfold bigAt
    by_cases hxb : bigAt (level + 1) x
    · unfold bigAt at hxb; omega
    · have := r2 (fun e => hxb (r1.1 e))
      have hne : ¬ (e = true) := fun e9 => hxb (r1.1 (.inl e9))
      rcases hb with hb | hb
      · simp only [Bool.false_or] at hb; exact absurd hb hne
      · omega
  · have hxb : ¬ (e = true ∨ 1000 < m) := fun e9 => by
      refine hb ?_
      rcases e9 with e9 | e9
      · exact .inl (by rw [e9]; rfl)
      · exact .inr (by omega)
    have h5 := r2 hxb
    have h6 : ¬ bigAt (level + 1) x := fun e9 => hxb (r1.2 e9)
    unfold bigAt at h6
    rw [hpd, hld]
    omega
theorem CntI.fin {level : Nat} {v : V} {n : Int} {d : Bool} (h : CntI level v (inner v) n d) (hl : 1 ≤ level) : RefP level v n d := by
  have hp := pN_inner v
  have hv := lv_inner v
  refine ⟨⟨h.big, fun hb => Classical.byContradiction fun hn => ?_⟩, fun hn => ?_, h.lo, by have := h.hi; omega⟩
  · obtain ⟨k1, k2, k3⟩ := h.ok hn
    unfold bigAt at hb
    omega
  · obtain ⟨k1, k2, k3⟩ := h.ok hn
    omega
theorem CntI.brk {level : Nat} {v : V} {done rest : List V} {n : Int} {d : Bool} (hin : inner v = done ++ rest) (h : CntI level v done n d) (hb : d = true ∨ 1000 < n) : RefP level v n d := by
  have hp := pN_inner v
  rw [hin, pNL_append] at hp
  exact ⟨⟨h.big, fun _ => hb⟩, fun hn => absurd hb hn, h.lo, by have := h.hi; omega⟩
end Fd
end Go.Proofs.YtkjgifhklajifaaDoor
namespace Go.Proofs.YtkjgifhklajifaaDoor
open Go.RowKit
theorem elems_repsD {α β : Type} {R : α → List Value → Prop} {D : α → β} {sz : Nat} (hs : ∀ x c, R x c → c.length = sz) (f : Nat → List Value) (g : Nat → β) :
    ∀ (n : Nat), (∀ i, i < n → ∃ x, R x (f i) ∧ D x = g i) → ∃ l : List α, l.length = n ∧ Reps R l ((List.range n).flatMap f) ∧ (∀ i, i < n → ∀ j u, (f i)[j]? = some u → ((List.range n).flatMap f)[i * sz + j]? = some u) ∧ l.map D = (List.range n).map g
  | 0, _ => ⟨[], rfl, rfl, (fun i h => by omega), rfl⟩
  | n + 1, h => by
    obtain ⟨l, hl, hr, hg, hD⟩ := elems_repsD hs f g n (fun i hi => h i (by omega))
    obtain ⟨x, hx, hxD⟩ := h n (by omega)
    have hlen := Reps.length hs hr
    have happ : ∀ {l : List α} {cs : List Value}, Reps R l cs → Reps R (l ++ [x]) (cs ++ f n) := by
      intro l
      induction l with
      | nil => intro cs hc; cases hc; exact ⟨f n, [], by simp, hx, rfl⟩
      | cons y l ih =>
        rintro cs ⟨c, r, rfl, h1, h2⟩
        exact ⟨c, r ++ f n, by simp, h1, ih h2⟩
    have hfm : (List.range (n + 1)).flatMap f = (List.range n).flatMap f ++ f n := by
      rw [List.range_succ, List.flatMap_append]; simp
    refine ⟨l ++ [x], by simp [hl], by rw [hfm]; exact happ hr, fun i hi j u hu => ?_, by rw [List.range_succ, List.map_append, List.map_append, hD]; simp [hxD]⟩
    rw [hfm]
    by_cases hin : i < n
    · have := hg i hin j u hu
      rw [List.getElem?_append_left (List.getElem?_eq_some_iff.1 this).1]; exact this
    · have : i = n := by omega
      subst this
      rw [hl] at hlen
      rw [List.getElem?_append_right (by omega), ← hu]
      congr 1; omega
/-- A slice that is read as data, and the data of its elements. -/
theorem read_sliceD {H : Type} {enc : TypeId × Value → H} {P : Program} {W : World} {spare : Nat → Bool} {held : Bool} {α : Type} {R : α → List Value → Prop} {D : α → DataW H} {sz : Nat} (hs : ∀ x c, R x c → c.length = sz)
    {t e : TypeId} {fuel : Nat} {cs : List Value} {x : DataW H × List MemPlace} (ht : P.underlying t = some (.slice e)) (hC : P.cellsOf e = sz) (hsz : 0 < sz)
    (hel : ∀ n cs' y, n < fuel → DataW.trod enc P W 0 spare held n e cs' = some y → ∃ a, R a cs' ∧ D a = y.1)
    (h : DataW.trod enc P W 0 spare held fuel t cs = some x) : ∃ (a : Option Addr) (l : List α) (cap : Nat) (cells : List Value), cs = [.slice a l.length cap] ∧ Sl W (.slice a l.length cap) l.length cells ∧ Reps R l cells ∧ ((x.1 = .nil ∧ l = []) ∨ ∃ rest, x.1 = .slice (l.map D) rest) := by
  rcases DataW.trod_slice ht h with ⟨rfl, rfl⟩ | ⟨a, len, cap, elems, rest, n, hn, rfl, hx, hb, hl, hm, hlen, hel', _⟩
  · exact ⟨none, [], 0, [], rfl, Sl.nil W, rfl, .inl ⟨rfl, rfl⟩⟩
  · rw [hC] at hel'
    have hget : ∀ i, i < len → ∃ c, (∀ j u, c[j]? = some u → W.cell? ((a.add (i * sz)).add j) = some u) ∧ ∃ y, R y c ∧ D y = (elems.map (·.1)).getD i .nil := by
      intro i hi
      have h1 := hel' i hi
      have hi' : i < elems.length := by omega
      rw [List.getElem?_eq_getElem hi'] at h1
      obtain ⟨c, hc, htr⟩ := Option.bind_eq_some_iff.1 h1
      obtain ⟨_, hcl, hat⟩ := World.cells?_some hc
      obtain ⟨y, hy, hyD⟩ := hel n c _ (by omega) htr
      refine ⟨c, fun j u hu => ?_, y, hy, ?_⟩
      · rw [hat j (by have := (List.getElem?_eq_some_iff.1 hu).1; omega)]; exact hu
      · rw [hyD, List.getD_eq_getElem?_getD, List.getElem?_map, List.getElem?_eq_getElem hi']; rfl
    have hget' : ∀ i, ∃ c, i < len → (∀ j u, c[j]? = some u → W.cell? ((a.add (i * sz)).add j) = some u) ∧ ∃ y, R y c ∧ D y = (elems.map (·.1)).getD i .nil := by
      intro i
      by_cases hi : i < len
      · obtain ⟨c, hc⟩ := hget i hi; exact ⟨c, fun _ => hc⟩
      · exact ⟨[], fun h => (hi h).elim⟩
    obtain ⟨f, hf⟩ := Classical.axiomOfChoice hget'
    obtain ⟨l, hll, hr, hg, hD⟩ := elems_repsD hs f (fun i => (elems.map (·.1)).getD i .nil) len (fun i hi => (hf i hi).2)
    have hDe : l.map D = elems.map (·.1) := by
      rw [hD]
      apply List.ext_getElem?
      intro i
      rw [List.getElem?_map]
      by_cases hi : i < len
      · rw [List.getElem?_range hi]
        have hi' : i < (elems.map (·.1)).length := by rw [List.length_map]; omega
        show some ((elems.map (·.1)).getD i .nil) = _
        rw [List.getD_eq_getElem?_getD, List.getElem?_eq_getElem hi']; rfl
      · rw [List.getElem?_eq_none (by rw [List.length_range]; omega), List.getElem?_eq_none (by rw [List.length_map]; omega)]; rfl
    refine ⟨some a, l, cap, _, by rw [hll], ⟨_, _, rfl, by omega, hm, (fun h => by cases h), fun i u hu => ?_⟩, hr, .inr ⟨rest.map (·.1), by rw [hx, hDe]⟩⟩
    have hrl := Reps.length hs hr
    have hi : i < len * sz := by have := (List.getElem?_eq_some_iff.1 hu).1; rw [hll] at hrl; omega
    have hid : i / sz < len := Nat.div_lt_of_lt_mul (by rw [Nat.mul_comm]; exact hi)
    obtain ⟨y, hy, _⟩ := (hf _ hid).2
    have hfl := hs _ _ hy
    have hj : i % sz < (f (i / sz)).length := by rw [hfl]; exact Nat.mod_lt _ hsz
    have h2 := hg _ hid _ _ (List.getElem?_eq_getElem hj)
    rw [Nat.div_add_mod' i sz, hu] at h2
    have hcell := (hf _ hid).1 _ _ (List.getElem?_eq_getElem hj)
    have h0 : 0 < len := Nat.lt_of_le_of_lt (Nat.zero_le _) hid
    obtain ⟨y0, hy0, _⟩ := (hf 0 h0).2
    have hj0 : 0 < (f 0).length := by rw [hs _ _ hy0]; exact hsz
    have hc0 := (hf 0 h0).1 _ _ (List.getElem?_eq_getElem hj0)
    rw [Nat.zero_mul] at hc0
    have ha : a = ⟨a.block, a.off, none⟩ := by
      have e : (a.add 0).add 0 = a := by simp [Addr.add]
      rw [e] at hc0
      exact addr_of_cell hc0
    refine ⟨a.block, a.off, by rw [← ha], ?_⟩
    rw [ha, add_add_none, Nat.div_add_mod' i sz] at hcell
    rw [hcell, Option.some.inj h2]
section
variable {H : Type} {enc : TypeId × Value → H} {W : World} {spare : Nat → Bool} {held : Bool}
theorem repsD_V {l : List (V × DataW H)} : ∀ {cs : List Value}, Reps (fun (p : V × DataW H) c => RepV W p.1 c ∧ Fd.pN p.1 ≤ Rows.uptoBulk p.2) l cs → RepL W (l.map (·.1)) cs ∧ Fd.pNL (l.map (·.1)) ≤ Rows.uptoBulkAll (l.map (·.2)) := by
  induction l with
  | nil => intro cs h; simp only [List.map_nil, RepL, Fd.pNL]; exact ⟨h, Nat.zero_le _⟩
  | cons p r ih =>
    rintro cs ⟨c, q, e, h1, h2⟩
    obtain ⟨i1, i2⟩ := ih h2
    simp only [List.map_cons, RepL, Fd.pNL, Rows.uptoBulkAll]
    exact ⟨⟨c, q, e, h1.1, i1⟩, by have := h1.2; omega⟩
theorem repsD_F {l : List (F × DataW H)} : ∀ {cs : List Value}, Reps (fun (p : F × DataW H) c => RepF W p.1 c ∧ Fd.pN (Fd.vlF p.1) ≤ Rows.uptoBulk p.2) l cs → RepFs W (l.map (·.1)) cs ∧ Fd.pNF (l.map (·.1)) ≤ Rows.uptoBulkAll (l.map (·.2)) := by
  induction l with
  | nil => intro cs h; simp only [List.map_nil, RepFs, Fd.pNF]; exact ⟨h, Nat.zero_le _⟩
  | cons p r ih =>
    rintro cs ⟨c, q, e, h1, h2⟩
    obtain ⟨i1, i2⟩ := ih h2
    obtain ⟨⟨nm, v⟩, d⟩ := p
    simp only [List.map_cons, RepFs, Fd.pNF, Rows.uptoBulkAll]
    exact ⟨⟨c, q, e, h1.1, i1⟩, by have := h1.2; simp only [Fd.vlF] at this; omega⟩
/-- a value that is read, and its parts by the bulk of the datum -/
theorem read_VB : ∀ (fuel : Nat) (cs : List Value) (x : DataW H × List MemPlace), DataW.trod enc Tryd.prog W 0 spare held fuel 25 cs = some x → ∃ v, RepV W v cs ∧ Fd.pN v ≤ Rows.uptoBulk x.1 := by
  intro fuel
  induction fuel using Nat.strongRecOn with
  | _ fuel ih =>
  intro cs x h
  obtain ⟨xs, n, rfl, rfl, hlen, hxl, hf⟩ := DataW.trod_struct Tryd.underlying25 h
  rw [cells_api_Value] at hlen
  obtain ⟨c0, c1, c2, c3, c4, rfl⟩ := len5 hlen
  have f0 : DataW.trod enc Tryd.prog W 0 spare held n 3 (List.take (Tryd.prog.cellsOf 3) (List.drop 0 [c0, c1, c2, c3, c4])) = xs[0]? := hf 0 _ rfl
  rw [cells_int] at f0
  have f1 : DataW.trod enc Tryd.prog W 0 spare held n 3 (List.take (Tryd.prog.cellsOf 3) (List.drop 1 [c0, c1, c2, c3, c4])) = xs[1]? := hf 1 _ rfl
  rw [cells_int] at f1
  have f2 : DataW.trod enc Tryd.prog W 0 spare held n 9 (List.take (Tryd.prog.cellsOf 9) (List.drop 2 [c0, c1, c2, c3, c4])) = xs[2]? := hf 2 _ rfl
  rw [cells_string] at f2
  have f3 : DataW.trod enc Tryd.prog W 0 spare held n 22 (List.take (Tryd.prog.cellsOf 22) (List.drop 3 [c0, c1, c2, c3, c4])) = xs[3]? := hf 3 _ rfl
  rw [cells_api_Values] at f3
  have f4 : DataW.trod enc Tryd.prog W 0 spare held n 23 (List.take (Tryd.prog.cellsOf 23) (List.drop 4 [c0, c1, c2, c3, c4])) = xs[4]? := hf 4 _ rfl
  rw [cells_api_Fields] at f4
  simp only [List.drop, List.take] at f0 f1 f2 f3 f4
  have hxl5 : xs.length = 5 := by simp_all
  obtain ⟨y0, y1, y2, y3, y4, rfl⟩ : ∃ y0 y1 y2 y3 y4, xs = [y0, y1, y2, y3, y4] := by
    match xs, hxl5 with
    | [a, b, c, d, e], _ => exact ⟨a, b, c, d, e, rfl⟩
  simp only [List.getElem?_cons_zero, List.getElem?_cons_succ] at f0 f1 f2 f3 f4
  obtain ⟨k, h0, _, w0⟩ := DataW.trod_int Tryd.underlying3 f0
  obtain ⟨m, h1, _, w1⟩ := DataW.trod_int Tryd.underlying3 f1
  obtain ⟨s, h2, _, w2⟩ := DataW.trod_string Tryd.underlying9 f2
  obtain ⟨a3, is, q3, ics, h3, s3, r3, d3⟩ := read_sliceD (R := fun (p : V × DataW H) c => RepV W p.1 c ∧ Fd.pN p.1 ≤ Rows.uptoBulk p.2) (D := fun p => p.2) (fun _ _ h => RepV.len h.1) Tryd.underlying22 cells_api_Value (by omega) (fun j cs' y hj ht => by
    obtain ⟨v, hv, hp⟩ := ih j (by omega) cs' y ht
    exact ⟨(v, y.1), ⟨hv, hp⟩, rfl⟩) f3
  obtain ⟨a4, fs, q4, fcs, h4, s4, r4, d4⟩ := read_sliceD (R := fun (p : F × DataW H) c => RepF W p.1 c ∧ Fd.pN (Fd.vlF p.1) ≤ Rows.uptoBulk p.2) (D := fun p => p.2) (fun _ _ h => RepF.len h.1) Tryd.underlying23 cells_api_Field (by omega) (fun j cs' y hj ht => by
    obtain ⟨xs', n', rfl, rfl, hlen', hxl', hf'⟩ := DataW.trod_struct Tryd.underlying44 ht
    rw [cells_api_Field] at hlen'
    obtain ⟨d0, r, rfl, hr⟩ := len6 hlen'
    have g0 : DataW.trod enc Tryd.prog W 0 spare held n' 9 (List.take (Tryd.prog.cellsOf 9) (List.drop 0 (d0 :: r))) = xs'[0]? := hf' 0 _ rfl
    have g1 : DataW.trod enc Tryd.prog W 0 spare held n' 25 (List.take (Tryd.prog.cellsOf 25) (List.drop 1 (d0 :: r))) = xs'[1]? := hf' 1 _ rfl
    rw [cells_string] at g0
    rw [cells_api_Value] at g1
    simp only [List.drop, List.take] at g0
    rw [List.drop_succ_cons, List.drop_zero] at g1
    have hxl2 : xs'.length = 2 := by simp_all
    obtain ⟨z0, z1, rfl⟩ : ∃ z0 z1, xs' = [z0, z1] := by
      match xs', hxl2 with
      | [a, b], _ => exact ⟨a, b, rfl⟩
    simp only [List.getElem?_cons_zero, List.getElem?_cons_succ] at g0 g1
    rw [List.take_of_length_le (by omega)] at g1
    obtain ⟨nm, l0, _, wn⟩ := DataW.trod_string Tryd.underlying9 g0
    obtain ⟨v, hv, hp⟩ := ih n' (by omega) r _ g1
    cases l0
    refine ⟨(.mk nm v, .agg [z0.1, z1.1]), ⟨by simp only [RepF]; exact ⟨r, rfl, wn, hv⟩, ?_⟩, rfl⟩
    show Fd.pN v ≤ Rows.uptoBulk (.agg [z0.1, z1.1])
    simp only [Rows.uptoBulk, Rows.uptoBulkAll]
    omega) f4
  cases h0
  cases h1
  cases h2
  cases h3
  cases h4
  obtain ⟨l3, p3⟩ := repsD_V r3
  obtain ⟨l4, p4⟩ := repsD_F r4
  have b3 : Fd.pNL (is.map (·.1)) ≤ Rows.uptoBulk y3.1 := by
    rcases d3 with ⟨e, rfl⟩ | ⟨rest, e⟩
    · simp [Fd.pNL]
    · rw [e]; simp only [Rows.uptoBulk]; omega
  have b4 : Fd.pNF (fs.map (·.1)) ≤ Rows.uptoBulk y4.1 := by
    rcases d4 with ⟨e, rfl⟩ | ⟨rest, e⟩
    · simp [Fd.pNF]
    · rw [e]; simp only [Rows.uptoBulk]; omega
  refine ⟨.mk k m s (is.map (·.1)) (fs.map (·.1)), by simp only [RepV]; exact ⟨.slice a3 is.length q3, .slice a4 fs.length q4, ics, fcs, rfl, i64ok_of w0, i64ok_of w1, w2, by rw [List.length_map]; exact s3, l3, by rw [List.length_map]; exact s4, l4⟩, ?_⟩
  show Fd.pN _ ≤ Rows.uptoBulk (.agg [y0.1, y1.1, y2.1, y3.1, y4.1])
  simp only [Rows.uptoBulk, Rows.uptoBulkAll, Fd.pN]
  omega
end
end Go.Proofs.YtkjgifhklajifaaDoor
namespace Go.Proofs.YtkjgifhklajifaaDoor
namespace Nm
/-- the base -/
def B : Nat := 4294967296
theorem B_pos : 0 < B := by decide
def Dg (l : List Nat) : Prop := ∀ x ∈ l, x < B
theorem Dg.nil : Dg [] := fun _ h => by cases h
theorem Dg.cons {x : Nat} {l : List Nat} : Dg (x :: l) ↔ x < B ∧ Dg l := by
  constructor
  · intro h; exact ⟨h x (by simp), fun y hy => h y (by simp [hy])⟩
  · rintro ⟨h, k⟩ y hy
    rcases List.mem_cons.1 hy with rfl | hy
    · exact h
    · exact k y hy
theorem Dg.take {l : List Nat} (h : Dg l) (k : Nat) : Dg (l.take k) := fun x hx => h x (List.mem_of_mem_take hx)
theorem Dg.drop {l : List Nat} (h : Dg l) (k : Nat) : Dg (l.drop k) := fun x hx => h x (List.mem_of_mem_drop hx)
theorem Dg.get {l : List Nat} (h : Dg l) {k : Nat} (hk : k < l.length) : l[k] < B := h _ (List.getElem_mem hk)
theorem Dg.append {l m : List Nat} (h : Dg l) (k : Dg m) : Dg (l ++ m) := fun x hx => by
  rcases List.mem_append.1 hx with hx | hx
  · exact h x hx
  · exact k x hx
theorem Dg.set {l : List Nat} (h : Dg l) (k : Nat) {x : Nat} (hx : x < B) : Dg (l.set k x) := fun y hy => by
  rcases List.mem_or_eq_of_mem_set hy with hy | rfl
  · exact h y hy
  · exact hx
theorem Dg.zeros (n : Nat) : Dg (List.replicate n 0) := fun x hx => by rw [(List.mem_replicate.1 hx).2]; exact B_pos

end Nm
end Go.Proofs.YtkjgifhklajifaaDoor
