/- Values in memory: rows of values and of fields, element by element; what lies in blocks from a number on. No program stands in it but the types' numbers. A row of fields of the call's own: what lies behind its elements lies elsewhere, so that the row may be written. No program stands in it but the types' numbers. Plain: fields in order of their names: what reads under a name, a field laid in or taken out; what is wrong with a value. No program stands in it. -/
import Derived.Test.YtkjgifhklajifaaPm00
import Derived.Test.YtkjgifhklajifaaPm01
import Derived.Test.YtkjgifhklajifaaProg
namespace Go.Proofs.Ytkjgifhklajifaa
open Go.RowKit
namespace Fd
open _root_.Go.Proofs.Ytkjgifhklajifaa.Rw (All2 All2.length All2.get All2.mono All2.set All2.append All2.take All2.drop Kept Fresh Fresh.now Fresh.kept Fresh.mono fresh_own)
theorem repL_all {w : World} : ∀ {l : List V} {cs : List Value}, RepL w l cs → ∃ E, cs = E.flatten ∧ All2 (RepV w) l E
  | [], cs, h => by simp only [RepL] at h; exact ⟨[], h, trivial⟩
  | x :: r, cs, h => by
    simp only [RepL] at h
    obtain ⟨c, q, rfl, h1, h2⟩ := h
    obtain ⟨E, rfl, hE⟩ := repL_all h2
    exact ⟨c :: E, by simp, h1, hE⟩
theorem all_repL {w : World} : ∀ {l : List V} {E : List (List Value)}, All2 (RepV w) l E → RepL w l E.flatten
  | [], [], _ => by simp [RepL]
  | x :: r, c :: E, h => by simp only [RepL]; exact ⟨c, E.flatten, by simp, h.1, all_repL h.2⟩
  | [], _ :: _, h => h.elim
  | _ :: _, [], h => h.elim
theorem repFs_all {w : World} : ∀ {l : List F} {cs : List Value}, RepFs w l cs → ∃ E, cs = E.flatten ∧ All2 (RepF w) l E
  | [], cs, h => by simp only [RepFs] at h; exact ⟨[], h, trivial⟩
  | x :: r, cs, h => by
    simp only [RepFs] at h
    obtain ⟨c, q, rfl, h1, h2⟩ := h
    obtain ⟨E, rfl, hE⟩ := repFs_all h2
    exact ⟨c :: E, by simp, h1, hE⟩
theorem all_repFs {w : World} : ∀ {l : List F} {E : List (List Value)}, All2 (RepF w) l E → RepFs w l E.flatten
  | [], [], _ => by simp [RepFs]
  | x :: r, c :: E, h => by simp only [RepFs]; exact ⟨c, E.flatten, by simp, h.1, all_repFs h.2⟩
  | [], _ :: _, h => h.elim
  | _ :: _, [], h => h.elim
theorem all_len {α : Type} {R : α → List Value → Prop} {k : Nat} (hR : ∀ x c, R x c → c.length = k) : ∀ {l : List α} {E : List (List Value)}, All2 R l E → ∀ c ∈ E, c.length = k
  | [], [], _, _, h => by cases h
  | _ :: _, _ :: _, h, c, hc => by
    rcases List.mem_cons.1 hc with rfl | hc
    · exact hR _ _ h.1
    · exact all_len hR h.2 c hc
  | [], _ :: _, h, _, _ => h.elim
  | _ :: _, [], h, _, _ => h.elim
theorem RepV.one {w : World} {x : V} {c : List Value} (h : RepV w x c) : ∀ v ∈ c, v.oneCell' = true := by
  obtain ⟨k, n, s, is, fs⟩ := x
  simp only [RepV] at h
  obtain ⟨vi, vf, _, _, rfl, _, _, _, ⟨_, _, rfl, _⟩, _, ⟨_, _, rfl, _⟩, _⟩ := h
  intro v hv
  simp only [List.mem_cons, List.not_mem_nil, or_false] at hv
  rcases hv with rfl | rfl | rfl | rfl | rfl <;> rfl
theorem RepF.one {w : World} {x : F} {c : List Value} (h : RepF w x c) : ∀ v ∈ c, v.oneCell' = true := by
  obtain ⟨a, x⟩ := x
  simp only [RepF] at h
  obtain ⟨c, rfl, _, h⟩ := h
  intro v hv
  rcases List.mem_cons.1 hv with rfl | hv
  · rfl
  · exact RepV.one h v hv
theorem all_one {α : Type} {R : α → List Value → Prop} (hR : ∀ x c, R x c → ∀ v ∈ c, v.oneCell' = true) : ∀ {l : List α} {E : List (List Value)}, All2 R l E → ∀ v ∈ E.flatten, v.oneCell' = true
  | [], [], _, _, h => by simp at h
  | _ :: _, _ :: _, h, v, hv => by
    rw [List.flatten_cons] at hv
    rcases List.mem_append.1 hv with hv | hv
    · exact hR _ _ h.1 v hv
    · exact all_one hR h.2 v hv
  | [], _ :: _, h, _, _ => h.elim
  | _ :: _, [], h, _, _ => h.elim
/-- the cells of a value at its slices -/
structure VC (w : World) (k n : Int) (s : ByteArray) (is : List V) (fs : List F) (ai : Option Addr) (ci : Nat) (af : Option Addr) (cf : Nat) (EI EF : List (List Value)) : Prop where
  si : Sl w (.slice ai is.length ci) is.length EI.flatten
  ri : All2 (RepV w) is EI
  sf : Sl w (.slice af fs.length cf) fs.length EF.flatten
  rf : All2 (RepF w) fs EF
theorem RepV.open {w : World} {k n : Int} {s : ByteArray} {is : List V} {fs : List F} {cs : List Value} (h : RepV w (.mk k n s is fs) cs) :
    ∃ ai ci af cf EI EF, cs = [.int .i64 k, .int .i64 n, .string s, .slice ai is.length ci, .slice af fs.length cf] ∧ i64ok k ∧ i64ok n ∧ s.size ≤ maxLen ∧ VC w k n s is fs ai ci af cf EI EF := by
  simp only [RepV] at h
  obtain ⟨vi, vf, ics, fcs, rfl, h1, h2, h3, h4, h5, h6, h7⟩ := h
  obtain ⟨EI, rfl, hI⟩ := repL_all h5
  obtain ⟨EF, rfl, hF⟩ := repFs_all h7
  obtain ⟨ai, ci, rfl, k1⟩ := id h4
  obtain ⟨af, cf, rfl, k2⟩ := id h6
  exact ⟨ai, ci, af, cf, EI, EF, rfl, h1, h2, h3, h4, hI, h6, hF⟩
theorem VC.shut {w : World} {k n : Int} {s : ByteArray} {is : List V} {fs : List F} {ai af : Option Addr} {ci cf : Nat} {EI EF : List (List Value)} (h : VC w k n s is fs ai ci af cf EI EF) (h1 : i64ok k) (h2 : i64ok n) (h3 : s.size ≤ maxLen) : RepV w (.mk k n s is fs) [.int .i64 k, .int .i64 n, .string s, .slice ai is.length ci, .slice af fs.length cf] := by
  simp only [RepV]
  exact ⟨_, _, _, _, rfl, h1, h2, h3, h.si, all_repL h.ri, h.sf, all_repFs h.rf⟩
theorem VC.ext {w w' : World} {k n : Int} {s : ByteArray} {is : List V} {fs : List F} {ai af : Option Addr} {ci cf : Nat} {EI EF : List (List Value)} (h : VC w k n s is fs ai ci af cf EI EF) (hb : Below w.heap.size w w') : VC w' k n s is fs ai ci af cf EI EF :=
  ⟨h.si.ext hb, h.ri.mono (fun _ _ hr => RepV.ext hb hr), h.sf.ext hb, h.rf.mono (fun _ _ hr => RepF.ext hb hr)⟩
/-- a value in blocks from N on -/
def FreV (N : Nat) (w : World) (x : V) (c : List Value) : Prop := Fresh N (fun w => RepV w x c) w
def FreF (N : Nat) (w : World) (x : F) (c : List Value) : Prop := Fresh N (fun w => RepF w x c) w
theorem fre_field {N : Nat} {w : World} {nm : ByteArray} {x : V} {c : List Value} (h : FreV N w x c) (hn : nm.size ≤ maxLen) : FreF N w (.mk nm x) (.string nm :: c) := fun w' k => by
  simp only [RepF]
  exact ⟨c, rfl, hn, h w' k⟩
/-- what a copy answers -/
def CopyPost (x : V) (w : World) (e : Ending) (w' : World) : Prop := ∃ c, e = .returned (.agg c.toArray) ∧ FreV w.heap.size w' x c ∧ Below w.heap.size w w'
theorem V5 {w : World} {x : V} {c : List Value} (h : RepV w x c) : ∃ (k n : Int) (s : ByteArray) (a : Option Addr) (m q : Nat) (a' : Option Addr) (m' q' : Nat), c = [.int .i64 k, .int .i64 n, .string s, .slice a m q, .slice a' m' q'] := by
  cases x; simp only [RepV] at h; obtain ⟨_, _, _, _, rfl, _, _, _, ⟨_, _, rfl, _⟩, _, ⟨_, _, rfl, _⟩, _⟩ := h; exact ⟨_, _, _, _, _, _, _, _, _, rfl⟩
theorem v_info {w : World} {x : V} {c : List Value} (h : RepV w x c) : (Try.prog.info? 25).map (·.size) = some c.length := by
  rw [h.len]; kernel_rfl
theorem f_info {w : World} {x : F} {c : List Value} (h : RepF w x c) : (Try.prog.info? 38).map (·.size) = some c.length := by
  rw [h.len]; kernel_rfl
theorem all_arr {c : List Value} (h : ∀ v ∈ c, v.oneCell' = true) : c.toArray.all (·.oneCell') = true := by
  rw [Array.all_eq_true_iff_forall_mem]
  exact fun v hv => h v (by simpa using hv)
/-- the cells of an element of a slice -/
theorem sl_elem {w : World} {a : Option Addr} {n q k i : Nat} {E : List (List Value)} {c : List Value} (hs : Sl w (.slice a n q) n E.flatten) (hk : ∀ c ∈ E, c.length = k) (h0 : 0 < k) (hc : E[i]? = some c) :
    ∃ p o, a = some ⟨p, o, none⟩ ∧ p < w.heap.size ∧ ∀ (j : Nat) (v : Value), c[j]? = some v → w.cell? ⟨p, o + (i * k + j), none⟩ = some v := by
  obtain ⟨_, _, e, _, _, _, h3⟩ := hs
  cases e
  have hcl := hk c (List.mem_of_getElem? hc)
  obtain ⟨p, o, rfl, h4⟩ := h3 _ _ (Rw.fl_at hk hc (List.getElem?_eq_getElem (show 0 < c.length by omega)))
  refine ⟨p, o, rfl, World.block_lt_of_cell? _ _ h4, fun j v hv => ?_⟩
  obtain ⟨p', o', e, h5⟩ := h3 _ _ (Rw.fl_at hk hc hv)
  cases e
  exact h5
end Fd
end Go.Proofs.Ytkjgifhklajifaa
namespace Go.Proofs.Ytkjgifhklajifaa
open Go.RowKit
namespace Fd
open _root_.Go.Proofs.Ytkjgifhklajifaa.Rw (All2 All2.length All2.get All2.mono All2.set All2.append All2.take All2.drop Kept Fresh Fresh.now Fresh.kept Fresh.mono fresh_own own_base)
/-- the blocks from N on, but r, that stand in w stand in w' -/
def KX (N : Nat) (r : Option Nat) (w w' : World) : Prop := ∀ q, N ≤ q → q < w.heap.size → some q ≠ r → w'.heap[q]? = w.heap[q]?
theorem KX.refl (N : Nat) (r : Option Nat) (w : World) : KX N r w w := fun _ _ _ _ => rfl
theorem KX.back {N : Nat} {r r' : Option Nat} {w w' w'' : World} (hg : w.grownBy w' r) (hr : r' = r ∨ r' = some w.heap.size) (k : KX N r' w' w'') : KX N r w w'' := fun q h1 h2 h3 =>
  (k q h1 (Nat.lt_of_lt_of_le h2 hg.size) (by rcases hr with rfl | rfl; exact h3; simp; omega)).trans (hg.block q h2 h3)
structure TopF (N : Nat) (w : World) (fs : List F) (v : Value) (E : List (List Value)) : Prop where
  own : w.ownsRow N 38 6 v fs.length E.flatten
  el : All2 (fun f c => ∀ w', KX N v.ownBlock w w' → RepF w' f c) fs E
section
variable {N : Nat} {w w' : World} {fs : List F} {v : Value} {E : List (List Value)}
theorem own_keep {N e size n : Nat} {v : Value} {xs : List Value} (h : w.ownsRow N e size v n xs) (k : Kept N w w') : w'.ownsRow N e size v n xs := by
  obtain ⟨h1, h2 | ⟨g, cap, cur, hv, hB, hg, hr⟩⟩ := h
  · exact ⟨h1, .inl h2⟩
  · exact ⟨h1, .inr ⟨g, cap, cur, hv, hB, (k g hB (Array.getElem?_eq_some_iff.1 hg).1).trans hg, hr⟩⟩
theorem TopF.kept (h : TopF N w fs v E) (hs : w.heap.size ≤ w'.heap.size) (k : Kept N w w') : TopF N w' fs v E :=
  ⟨own_keep h.own k, h.el.mono (fun _ _ hr w'' k' => hr w'' (fun q h1 h2 h3 => (k' q h1 (by omega) h3).trans (k q h1 h2)))⟩
theorem TopF.ext (h : TopF N w fs v E) (hb : Below w.heap.size w w') : TopF N w' fs v E := h.kept hb.size (Kept.below hb)
theorem TopF.rep (h : TopF N w fs v E) : All2 (RepF w) fs E := h.el.mono (fun _ _ hr => hr w (KX.refl _ _ _))
theorem TopF.sl (h : TopF N w fs v E) : Sl w v fs.length E.flatten := Sl.ofOwn h.own
theorem TopF.len (h : TopF N w fs v E) : E.length = fs.length := h.el.length.symm
theorem TopF.six (h : TopF N w fs v E) : ∀ c ∈ E, c.length = 6 := all_len (fun _ _ => RepF.len) h.rep
theorem TopF.one (h : TopF N w fs v E) : ∀ u ∈ E.flatten, u.oneCell' = true := all_one (fun _ _ => RepF.one) h.rep
theorem TopF.fin (h : TopF N w fs v E) (k : Kept N w w') : Sl w' v fs.length E.flatten ∧ All2 (RepF w') fs E :=
  ⟨Rw.fresh_own h.own w' k, h.el.mono (fun _ _ hr => hr w' (fun q h1 h2 _ => k q h1 h2))⟩
theorem TopF.nil (N : Nat) (w : World) : TopF N w [] (.slice none 0 0) [] := ⟨World.ownsRow_nil _ _ _ _, trivial⟩
/-- an element that is new: what lies behind it lies in blocks of its own -/
theorem el_new {M : Nat} {w1 : World} {f : F} {c : List Value} {r : Option Nat} (hc : FreF M w1 f c) (hN : N ≤ M) (hs : w1.heap.size ≤ w'.heap.size) (k : Kept M w1 w') (hr : ∀ q, M ≤ q → q < w1.heap.size → some q ≠ r) : ∀ w'', KX N r w' w'' → RepF w'' f c :=
  fun w'' k' => hc w'' (fun q h1 h2 => (k' q (by omega) (by omega) (hr q h1 h2)).trans (k q h1 h2))
/-- the elements stay, wherever the row is laid -/
theorem TopF.els (h : TopF N w fs v E) (hg : w.grownBy w' v.ownBlock) {r' : Option Nat} (hr : r' = v.ownBlock ∨ r' = some w.heap.size) : All2 (fun f c => ∀ w'', KX N r' w' w'' → RepF w'' f c) fs E :=
  h.el.mono (fun _ _ hf w'' k => hf w'' (KX.back hg hr k))
end
/-- what a copy answers: its fields are a row of the call's own -/
def CopyTop : V → World → Ending → World → Prop
  | .mk k n s is fs, w, e, w' => ∃ (vi vf : Value) (E : List (List Value)), e = .returned (.agg #[.int .i64 k, .int .i64 n, .string s, vi, vf]) ∧ (i64ok k ∧ i64ok n ∧ s.size ≤ maxLen) ∧
    Fresh w.heap.size (fun w => ∃ EI, Sl w vi is.length EI.flatten ∧ All2 (RepV w) is EI) w' ∧ TopF w.heap.size w' fs vf E ∧ Below w.heap.size w w'
theorem rep_mk {w : World} {k n : Int} {s : ByteArray} {is : List V} {fs : List F} {vi vf : Value} {EI E : List (List Value)} (h : i64ok k ∧ i64ok n ∧ s.size ≤ maxLen) (h1 : Sl w vi is.length EI.flatten) (h2 : All2 (RepV w) is EI) (h3 : Sl w vf fs.length E.flatten) (h4 : All2 (RepF w) fs E) :
    RepV w (.mk k n s is fs) [.int .i64 k, .int .i64 n, .string s, vi, vf] := by
  obtain ⟨ai, ci, rfl, k1⟩ := id h1
  obtain ⟨af, cf, rfl, k2⟩ := id h3
  exact VC.shut ⟨h1, h2, h3, h4⟩ h.1 h.2.1 h.2.2
theorem CopyTop.copy {x : V} {w w' : World} {e : Ending} (h : CopyTop x w e w') : CopyPost x w e w' := by
  obtain ⟨k, n, s, is, fs⟩ := x
  obtain ⟨vi, vf, E, rfl, h1, h2, h3, h4⟩ := h
  refine ⟨_, rfl, fun w'' hk => ?_, h4⟩
  obtain ⟨EI, a, b⟩ := h2 w'' hk
  obtain ⟨c, d⟩ := h3.fin hk
  exact rep_mk h1 a b c d
end Fd
end Go.Proofs.Ytkjgifhklajifaa
namespace Go.Proofs.Ytkjgifhklajifaa
namespace Fd
def nmF : F → ByteArray
  | .mk a _ => a
def vlF : F → V
  | .mk _ x => x
theorem eta (f : F) : f = .mk (nmF f) (vlF f) := by cases f; rfl
def kind : V → Int
  | .mk k _ _ _ _ => k
def items : V → List V
  | .mk _ _ _ is _ => is
def fields : V → List F
  | .mk _ _ _ _ fs => fs
/-- the value of kind None; an object -/
def V0 : V := .mk 0 0 ByteArray.empty [] []
def obj (fs : List F) : V := .mk 5 0 ByteArray.empty [] fs
/-- fields in order -/
def Srt (l : List F) : Prop := l.Pairwise (fun a b => cmpS (nmF a) (nmF b) < 0)
theorem lt_trans {a b c : ByteArray} (h : cmpS a b < 0) (k : cmpS b c < 0) : cmpS a c < 0 := by
  have h1 := cmpS_trans (a := a) (b := b) (c := c) (by omega) (by omega)
  by_cases h2 : cmpS a c = 0
  · have h3 := cmpS_anti a c
    have h4 := cmpS_trans (a := b) (b := c) (c := a) (by omega) (by omega)
    have h5 := cmpS_anti a b
    omega
  · omega
theorem lt_ne {a b : ByteArray} (h : cmpS a b < 0) : a ≠ b := fun e => by rw [e, cmpS_self] at h; omega
/-- what reads under a name -/
def lk : List F → ByteArray → Option V
  | [], _ => none
  | f :: r, nm => if nmF f = nm then some (vlF f) else lk r nm
theorem lk_none {l : List F} {m : ByteArray} (h : ∀ f ∈ l, nmF f ≠ m) : lk l m = none := by
  induction l with
  | nil => rfl
  | cons f r ih =>
    unfold lk
    rw [if_neg (h f (by simp))]
    exact ih (fun g hg => h g (by simp [hg]))
theorem lk_mem {l : List F} {m : ByteArray} {x : V} (h : lk l m = some x) : .mk m x ∈ l := by
  induction l with
  | nil => cases h
  | cons f r ih =>
    unfold lk at h
    split at h
    · next e =>
      injection h with h
      rw [← e, ← h, ← eta]; simp
    · exact List.mem_cons_of_mem _ (ih h)
theorem lk_isSome {l : List F} {m : ByteArray} : (∃ f ∈ l, nmF f = m) ↔ ∃ x, lk l m = some x := by
  constructor
  · rintro ⟨f, hf, rfl⟩
    cases h : lk l (nmF f) with
    | some x => exact ⟨x, rfl⟩
    | none =>
      exfalso
      induction l with
      | nil => cases hf
      | cons g r ih =>
        unfold lk at h
        split at h
        · cases h
        · next e =>
          rcases List.mem_cons.1 hf with rfl | hf
          · exact e rfl
          · exact ih hf h
  · rintro ⟨x, hx⟩
    exact ⟨_, lk_mem hx, rfl⟩
/-- fields in order are those that read alike -/
theorem srt_ext : ∀ {l l' : List F}, Srt l → Srt l' → (∀ m, lk l m = lk l' m) → l = l'
  | [], [], _, _, _ => rfl
  | [], g :: r, _, _, h => by have := h (nmF g); unfold lk at this; rw [if_pos rfl] at this; cases this
  | f :: r, [], _, _, h => by have := h (nmF f); unfold lk at this; rw [if_pos rfl] at this; cases this
  | f :: r, g :: r', hs, hs', h => by
    obtain ⟨h1, h2⟩ := List.pairwise_cons.1 hs
    obtain ⟨h3, h4⟩ := List.pairwise_cons.1 hs'
    have a1 : lk (g :: r') (nmF f) = some (vlF f) := by rw [← h, lk, if_pos rfl]
    have a2 : lk (f :: r) (nmF g) = some (vlF g) := by rw [h, lk, if_pos rfl]
    have hn : nmF f = nmF g := Classical.byContradiction fun hne => by
      have b1 := lk_mem a1
      have b2 := lk_mem a2
      rcases List.mem_cons.1 b1 with e | b1
      · exact hne (by rw [← e]; rfl)
      rcases List.mem_cons.1 b2 with e | b2
      · exact hne (by rw [← e]; rfl)
      have c1 : cmpS (nmF g) (nmF f) < 0 := h3 (.mk (nmF f) (vlF f)) b1
      have c2 : cmpS (nmF f) (nmF g) < 0 := h1 (.mk (nmF g) (vlF g)) b2
      have := cmpS_anti (nmF f) (nmF g)
      omega
    have hv : vlF f = vlF g := by
      rw [lk, if_pos hn.symm] at a1
      injection a1 with a1
      exact a1.symm
    have hfg : f = g := by rw [eta f, eta g, hn, hv]
    subst hfg
    congr 1
    refine srt_ext h2 h4 (fun m => ?_)
    have hm := h m
    unfold lk at hm
    by_cases e : nmF f = m
    · subst e
      rw [lk_none (fun q hq => (lt_ne (h1 q hq)).symm), lk_none (fun q hq => (lt_ne (h3 q hq)).symm)]
    · rw [if_neg e, if_neg e] at hm
      exact hm
def dropF (nm : ByteArray) (l : List F) : List F := l.filter (fun f => decide (nmF f ≠ nm))
def putF (nm : ByteArray) (x : V) : List F → List F
  | [] => [.mk nm x]
  | f :: r => if cmpS nm (nmF f) < 0 then .mk nm x :: f :: r else if nm = nmF f then .mk nm x :: r else f :: putF nm x r
theorem srt_drop {l : List F} (h : Srt l) (nm : ByteArray) : Srt (dropF nm l) := h.filter _
theorem lk_drop (l : List F) (nm m : ByteArray) : lk (dropF nm l) m = if nm = m then none else lk l m := by
  induction l with
  | nil => unfold dropF; simp [lk]
  | cons f r ih =>
    unfold dropF at ih ⊢
    rw [List.filter_cons]
    by_cases h : nmF f = nm
    · rw [if_neg (by simp [h]), ih]
      by_cases e : nm = m
      · rw [if_pos e, if_pos e]
      · rw [if_neg e, if_neg e, lk, if_neg (by rw [h]; exact e)]
    · rw [if_pos (by simp [h]), lk, ih]
      by_cases e : nm = m
      · subst e
        rw [if_neg h, if_pos rfl, if_pos rfl]
      · rw [if_neg e, if_neg e, lk]
theorem mem_put {nm : ByteArray} {x : V} {l : List F} {f : F} (h : f ∈ putF nm x l) : f = .mk nm x ∨ f ∈ l := by
  induction l with
  | nil => unfold putF at h; exact .inl (by simpa using h)
  | cons g r ih =>
    unfold putF at h
    split at h
    · rcases List.mem_cons.1 h with h | h
      · exact .inl h
      · exact .inr h
    · split at h
      · rcases List.mem_cons.1 h with h | h
        · exact .inl h
        · exact .inr (List.mem_cons_of_mem _ h)
      · rcases List.mem_cons.1 h with h | h
        · exact .inr (by rw [h]; simp)
        · rcases ih h with h | h
          · exact .inl h
          · exact .inr (List.mem_cons_of_mem _ h)
theorem srt_put {l : List F} (h : Srt l) (nm : ByteArray) (x : V) : Srt (putF nm x l) := by
  induction l with
  | nil => unfold putF; exact List.pairwise_singleton _ _
  | cons g r ih =>
    obtain ⟨h1, h2⟩ := List.pairwise_cons.1 h
    unfold putF
    by_cases h3 : cmpS nm (nmF g) < 0
    · rw [if_pos h3]
      refine List.pairwise_cons.2 ⟨fun q hq => ?_, h⟩
      rcases List.mem_cons.1 hq with rfl | hq
      · exact h3
      · exact lt_trans h3 (h1 q hq)
    · rw [if_neg h3]
      by_cases h4 : nm = nmF g
      · rw [if_pos h4]
        refine List.pairwise_cons.2 ⟨fun q hq => ?_, h2⟩
        show cmpS nm (nmF q) < 0
        rw [h4]; exact h1 q hq
      · rw [if_neg h4]
        refine List.pairwise_cons.2 ⟨fun q hq => ?_, ih h2⟩
        rcases mem_put hq with rfl | hq
        · show cmpS (nmF g) nm < 0
          have := cmpS_anti nm (nmF g)
          by_cases h5 : cmpS nm (nmF g) = 0
          · exact absurd (cmpS_zero h5) h4
          · omega
        · exact h1 q hq
theorem lk_put {l : List F} (h : Srt l) (nm m : ByteArray) (x : V) : lk (putF nm x l) m = if nm = m then some x else lk l m := by
  induction l with
  | nil => unfold putF lk; rfl
  | cons g r ih =>
    obtain ⟨h1, h2⟩ := List.pairwise_cons.1 h
    unfold putF
    by_cases h3 : cmpS nm (nmF g) < 0
    · rw [if_pos h3, lk]; rfl
    · rw [if_neg h3]
      by_cases h4 : nm = nmF g
      · rw [if_pos h4, lk]
        by_cases e : nm = m
        · rw [if_pos e]
          show (if nm = m then _ else _) = _
          rw [if_pos e]; rfl
        · rw [if_neg e]
          show (if nm = m then _ else _) = _
          rw [if_neg e, lk, if_neg (by rw [← h4]; exact e)]
      · rw [if_neg h4, lk, ih h2]
        by_cases e : nm = m
        · subst e
          rw [if_neg (fun e => h4 e.symm), if_pos rfl, if_pos rfl]
        · rw [if_neg e, if_neg e, lk]
/-- fields put in, one after the other -/
def putAll (out : List F) (us : List F) : List F := us.foldl (fun o f => putF (nmF f) (vlF f) o) out
theorem srt_putAll : ∀ {us out : List F}, Srt out → Srt (putAll out us)
  | [], _, h => h
  | _f :: r, _out, h => srt_putAll (us := r) (srt_put h _ _)
theorem lk_putAll : ∀ {us out : List F} {m : ByteArray}, Srt out → (us.Pairwise fun a b => nmF a ≠ nmF b) → lk (putAll out us) m = match lk us m with | some x => some x | none => lk out m
  | [], _, _, _, _ => rfl
  | f :: r, out, m, h, hp => by
    obtain ⟨h1, h2⟩ := List.pairwise_cons.1 hp
    show lk (putAll (putF (nmF f) (vlF f) out) r) m = _
    rw [lk_putAll (srt_put h _ _) h2, lk_put h, lk]
    by_cases e : nmF f = m
    · subst e
      rw [if_pos rfl, if_pos rfl, lk_none (fun q hq => (h1 q hq).symm)]
    · rw [if_neg e, if_neg e]
/-- what is wrong with a value -/
def seenC (c : UInt8) : Bool := decide (32 ≤ c.toNat) && decide (c.toNat ≤ 126)
def seenB (s : ByteArray) : Bool := s.data.toList.all seenC
def spareB (k n : Int) (s : ByteArray) (ni nf : Nat) : Bool := (decide (n ≠ 0) && decide (k ≠ 1) && decide (k ≠ 2)) || (decide (s.size ≠ 0) && decide (k ≠ 3)) || (decide (0 < ni) && decide (k ≠ 4)) || (decide (0 < nf) && decide (k ≠ 5))
/-- what is wrong with a value but for those within it -/
def ownF (k n : Int) (s : ByteArray) (ni nf : Nat) : Int :=
  if k < 0 ∨ 5 < k then 4 else if spareB k n s ni nf = true then 3 else if k = 1 ∧ n ≠ 0 ∧ n ≠ 1 ∨ k = 2 ∧ (n ≤ -1000000000000000 ∨ 1000000000000000 ≤ n) then 1 else if 500 < s.size then 2 else if seenB s = false then 1 else if 100 < ni ∨ 100 < nf then 2 else 0
def nameBad (s : ByteArray) : Bool := decide (s.size = 0) || decide (60 < s.size) || !seenB s
def ordBad : Option ByteArray → ByteArray → Bool
  | none, _ => false
  | some q, nm => decide (cmpS nm q ≤ 0)
mutual
def chkV : V → Int
  | .mk k n s is fs => if ownF k n s is.length fs.length ≠ 0 then ownF k n s is.length fs.length else if chkL is ≠ 0 then chkL is else chkFs none fs
def chkL : List V → Int
  | [] => 0
  | x :: r => if chkV x ≠ 0 then chkV x else chkL r
def chkFs : Option ByteArray → List F → Int
  | _, [] => 0
  | p, .mk nm x :: r => if nameBad nm = true then 5 else if ordBad p nm = true then 8 else if chkV x ≠ 0 then chkV x else chkFs (some nm) r
end
end Fd
end Go.Proofs.Ytkjgifhklajifaa
