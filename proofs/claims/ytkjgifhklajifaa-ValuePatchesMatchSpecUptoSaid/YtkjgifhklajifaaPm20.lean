/- Plain: how many parts a merged value and a patch have at most; the least patch laid in field by field. No program stands in it. What merged and patched of the reference hold of values while they write their variable. Printed by gen_md.py. -/
import Derived.Test.YtkjgifhklajifaaPm10
import Derived.Test.YtkjgifhklajifaaPm04
import Derived.Test.YtkjgifhklajifaaPm19
import Derived.Test.YtkjgifhklajifaaPm12
namespace Go.Proofs.Ytkjgifhklajifaa
namespace Fd
theorem pNF_put (nm : ByteArray) (m : V) : ∀ l : List F, pNF (putF nm m l) ≤ pNF l + pN m
  | [] => by unfold putF; simp only [pNF]; omega
  | .mk a x :: r => by
    have := pNF_put nm m r
    unfold putF
    split
    · simp only [pNF]; omega
    · split
      · simp only [pNF]; omega
      · simp only [pNF]; omega
theorem pNF_put_some {nm : ByteArray} {m old : V} : ∀ {l : List F}, Srt l → lk l nm = some old → pNF (putF nm m l) + pN old ≤ pNF l + pN m
  | [], _, h => by cases h
  | .mk a x :: r, hs, h => by
    obtain ⟨h1, h2⟩ := List.pairwise_cons.1 hs
    unfold putF
    rw [lk] at h
    by_cases e : a = nm
    · rw [if_pos (show nmF (.mk a x) = nm from e)] at h
      have h : x = old := by injection h
      subst h; subst e
      rw [if_neg (show ¬ cmpS a (nmF (F.mk a x)) < 0 by show ¬ cmpS a a < 0; rw [cmpS_self]; omega), if_pos (show a = nmF (F.mk a x) from rfl)]
      simp only [pNF]; omega
    · rw [if_neg (show ¬ nmF (.mk a x) = nm from e)] at h
      have h3 : cmpS a nm < 0 := h1 _ (lk_mem h)
      have h4 := cmpS_anti a nm
      have := pNF_put_some (m := m) h2 h
      rw [if_neg (show ¬ cmpS nm (nmF (F.mk a x)) < 0 from fun h9 => by have h9 : cmpS nm a < 0 := h9; omega), if_neg (show ¬ nm = nmF (F.mk a x) from fun e' => e e'.symm)]
      simp only [pNF]; omega
theorem pNF_filter (p : F → Bool) : ∀ l : List F, pNF (l.filter p) ≤ pNF l
  | [] => by simp [pNF]
  | .mk a x :: r => by
    have := pNF_filter p r
    rw [List.filter_cons]
    split
    · simp only [pNF]; omega
    · simp only [pNF]; omega
theorem pNF_drop_some {nm : ByteArray} {t : V} : ∀ {l : List F}, lk l nm = some t → pNF (dropF nm l) + pN t ≤ pNF l
  | [], h => by cases h
  | .mk a x :: r, h => by
    rw [lk] at h
    unfold dropF
    rw [List.filter_cons]
    by_cases e : a = nm
    · rw [if_pos (show nmF (.mk a x) = nm from e)] at h
      have h : x = t := by injection h
      subst h
      have := pNF_filter (fun f => decide (nmF f ≠ nm)) r
      rw [if_neg (by simp [nmF, e])]
      simp only [pNF]; omega
    · rw [if_neg (show ¬ nmF (.mk a x) = nm from e)] at h
      have := pNF_drop_some h
      unfold dropF at this
      rw [if_pos (by simp [nmF, e])]
      simp only [pNF]; omega
theorem pN_zero : pN V0 = 1 := by simp [V0, pN, pNL, pNF]
theorem pN_setFields (v : V) (fs : List F) : pN (setFields v fs) = 1 + pNL (items v) + pNF fs := by
  obtain ⟨k, n, s, is, fs0⟩ := v; rfl
theorem pN_obj (fs : List F) : pN (obj fs) = 1 + pNF fs := by simp [obj, pN, pNL]
theorem pN_own (v : V) : pN v = 1 + pNL (items v) + pNF (fields v) := by obtain ⟨k, n, s, is, fs⟩ := v; rfl
mutual
theorem pN_merge : ∀ {x p : V}, chkV x = 0 → chkV p = 0 → pN (mergeV x p) + 1 ≤ pN x + pN p
  | x, .mk k n s is us, hx, hp => by
    have hpos := pN_pos x
    simp only [mergeV]
    by_cases hk : k ≠ 5
    · rw [if_pos hk]; omega
    · rw [if_neg hk, pN_setFields]
      obtain ⟨hb1, hb2⟩ := base_right hx
      obtain ⟨hu1, hu2⟩ : Srt us ∧ ∀ f ∈ us, chkV (vlF f) = 0 := fields_ok hp
      have h := pNF_merge us (out := fields (base x)) hb1 (fun f _ y h => hb2 _ (lk_mem h)) (srt_ne' hu1) hu2
      have hb : pN (base x) ≤ pN x := by
        unfold base
        split
        · exact Nat.le_refl _
        · rw [pN_obj]; simp only [pNF]; exact hpos
      rw [pN_own (base x)] at hb
      simp only [pN]; omega
theorem pNF_merge : ∀ (us : List F) {out : List F}, Srt out → (∀ f ∈ us, ∀ y, lk out (nmF f) = some y → chkV y = 0) → (us.Pairwise fun a b => nmF a ≠ nmF b) → (∀ f ∈ us, chkV (vlF f) = 0) → pNF (mergeFs out us) ≤ pNF out + pNF us
  | [], out, _, _, _, _ => by simp only [mergeFs, pNF]; omega
  | .mk nm x :: r, out, hs, hc, hn, hu => by
    obtain ⟨n1, n2⟩ := List.pairwise_cons.1 hn
    have hx : chkV x = 0 := hu (.mk nm x) (by simp)
    have hu' : ∀ f ∈ r, chkV (vlF f) = 0 := fun f hf => hu f (by simp [hf])
    simp only [mergeFs]
    by_cases hk : kind x = 0
    · rw [if_pos hk]
      have h := pNF_merge r (out := dropF nm out) (srt_drop hs nm) (fun f hf y hy => by rw [lk_drop, if_neg (show ¬ nm = nmF f from n1 f hf)] at hy; exact hc f (by simp [hf]) y hy) n2 hu'
      have := pNF_filter (fun f => decide (nmF f ≠ nm)) out
      unfold dropF at h ⊢
      simp only [pNF]; omega
    · rw [if_neg hk]
      have h := pNF_merge r (out := putF nm (mergeV ((lk out nm).getD V0) x) out) (srt_put hs nm _) (fun f hf y hy => by rw [lk_put hs, if_neg (show ¬ nm = nmF f from n1 f hf)] at hy; exact hc f (by simp [hf]) y hy) n2 hu'
      cases hl : lk out nm with
      | none =>
        rw [hl] at h
        have h1 := pN_merge (x := V0) (p := x) (by decide) hx
        have h2 := pNF_put nm (mergeV V0 x) out
        rw [pN_zero] at h1
        simp only [Option.getD_none] at h ⊢
        simp only [pNF]; omega
      | some old =>
        rw [hl] at h
        have h1 := pN_merge (x := old) (p := x) (hc (.mk nm x) (by simp) old hl) hx
        have h2 := pNF_put_some (m := mergeV old x) hs hl
        simp only [Option.getD_some] at h ⊢
        simp only [pNF]; omega
end
theorem pNF_putAll : ∀ (us out : List F), pNF (putAll out us) ≤ pNF out + pNF us
  | [], out => by unfold putAll; simp [pNF]
  | .mk nm x :: r, out => by
    have h := pNF_putAll r (putF nm x out)
    have h2 := pNF_put nm x out
    show pNF (putAll (putF nm x out) r) ≤ _
    simp only [pNF]; omega
theorem lk_cons_ne {f : F} {r : List F} {m : ByteArray} (h : nmF f ≠ m) : lk (f :: r) m = lk r m := by rw [lk, if_neg h]
theorem patchFs_drop (nm : ByteArray) (ts : List F) : ∀ {r : List F}, (∀ f ∈ r, nm ≠ nmF f) → patchFs r ts = patchFs r (dropF nm ts)
  | [], _ => by simp only [patchFs]
  | .mk a x :: r, h => by
    have ha : ¬ nm = a := h (.mk a x) (by simp)
    simp only [patchFs]
    rw [lk_drop, if_neg ha, patchFs_drop nm ts (fun f hf => h f (by simp [hf]))]
theorem newF_cons_none {f : F} {r ts : List F} (h : lk ts (nmF f) = none) : newF (f :: r) ts = newF r ts := by
  unfold newF
  refine List.filter_congr (fun t ht => ?_)
  rw [lk_cons_ne (fun e => by
    have h2 := lk_isSome.1 ⟨t, ht, e.symm⟩
    rw [h] at h2
    obtain ⟨_, h2⟩ := h2
    cases h2)]
theorem newF_cons_some (f : F) (r ts : List F) : newF (f :: r) ts = newF r (dropF (nmF f) ts) := by
  unfold newF dropF
  rw [List.filter_filter]
  refine List.filter_congr (fun t _ => ?_)
  by_cases e : nmF f = nmF t
  · rw [lk, if_pos e]
    simp [e]
  · rw [lk_cons_ne e]
    simp
    exact fun _ e' => e e'.symm
mutual
theorem pN_patch : ∀ {x : V} (y : V), chkV x = 0 → pN (patchV x y) ≤ pN x + pN y
  | .mk k n s is fs, y, hx => by
    by_cases h : k ≠ 5 ∨ kind y ≠ 5
    · have e1 : patchV (.mk k n s is fs) y = y := by unfold patchV; rw [if_pos h]
      rw [e1]; omega
    · have hk : k = 5 := Classical.byContradiction fun e => h (.inl e)
      have hky : kind y = 5 := Classical.byContradiction fun e => h (.inr e)
      rw [patchV_obj hk hky, pN_obj]
      obtain ⟨hf1, hf2⟩ : Srt fs ∧ ∀ f ∈ fs, chkV (vlF f) = 0 := fields_ok hx
      have h1 := pNF_putAll (ents fs (fields y)) []
      have h2 := pNF_patch fs (fields y) (srt_ne' hf1) hf2
      rw [ents_is, pNF_append] at h1
      rw [pN_own y]
      simp only [pN, pNF] at h1 ⊢
      rw [ents_is]; omega
theorem pNF_patch : ∀ (fs ts : List F), (fs.Pairwise fun a b => nmF a ≠ nmF b) → (∀ f ∈ fs, chkV (vlF f) = 0) → pNF (patchFs fs ts) + pNF (newF fs ts) ≤ pNF fs + pNF ts
  | [], ts, _, _ => by
    have : newF [] ts = ts := by unfold newF; simp [lk]
    rw [this]; simp only [patchFs, pNF]; omega
  | .mk nm x :: r, ts, hn, hc => by
    obtain ⟨n1, n2⟩ := List.pairwise_cons.1 hn
    have hx : chkV x = 0 := hc (.mk nm x) (by simp)
    have hc' : ∀ f ∈ r, chkV (vlF f) = 0 := fun f hf => hc f (by simp [hf])
    have hpos := pN_pos x
    cases hl : lk ts nm with
    | none =>
      have h := pNF_patch r ts n2 hc'
      rw [newF_cons_none (f := .mk nm x) hl]
      simp only [patchFs, hl, pNF, pN_zero]; omega
    | some t =>
      have h := pNF_patch r (dropF nm ts) n2 hc'
      have hd := pNF_drop_some hl
      have hp := pN_patch (x := x) t hx
      rw [newF_cons_some]
      simp only [patchFs, hl, nmF]
      rw [patchFs_drop nm ts n1]
      split
      · simp only [pNF]; omega
      · simp only [pNF]; omega
end
theorem putAll_len : ∀ (l out : List F), (putAll out l).length ≤ out.length + l.length
  | [], out => by simp [putAll]
  | .mk nm x :: r, out => by
    have h := putAll_len r (putF nm x out)
    have h2 := put_len nm x out
    show (putAll (putF nm x out) r).length ≤ _
    simp only [List.length_cons]; omega
end Fd
end Go.Proofs.Ytkjgifhklajifaa
namespace Go.Proofs.Ytkjgifhklajifaa
open Go.RowKit
namespace Fd
open _root_.Go.Proofs.Ytkjgifhklajifaa.Nt (RH RH.cell RH.box RH.lt RH.new RH.ext RH.fre RH.set RH.other RH.row RH.row_other)
open _root_.Go.Proofs.Ytkjgifhklajifaa.Rw (All2 All2.get All2.length All2.mono wpList_load_agg wp_stored Kept Fresh fresh_own)
/-- a value that hangs on the blocks of D and on new ones -/
def MdPost (D : Nat → Prop) (r : V) (w : World) (e : Ending) (w' : World) : Prop := ∃ c, e = .returned (.agg c.toArray) ∧ On (fun q => D q ∨ w.heap.size ≤ q) (fun Z => RepV Z r c) w' ∧ Below w.heap.size w w'
/-- the blocks of D ahead of lo, and all from hi on -/
def inD (D : Nat → Prop) (lo hi : Nat) : Nat → Prop := fun q => (D q ∧ q < lo) ∨ hi ≤ q
/-- a row of fields that hangs on the blocks of D -/
def FR (D : Nat → Prop) (X : World) (l : List F) (v : Value) (E : List (List Value)) : Prop := On D (fun Z => Sl Z v l.length E.flatten ∧ All2 (RepF Z) l E) X
theorem On.start {D : Nat → Prop} {P : World → Prop} {w X : World} {hi : Nat} (h : On D P w) (hb : Below w.heap.size w X) : On (inD D w.heap.size hi) P X := fun Z hZ => h Z (fun q h1 h2 => (hZ q (Nat.lt_of_lt_of_le h1 hb.size) (.inl ⟨h2, h1⟩)).trans (hb.block q h1))
theorem On.fin {D : Nat → Prop} {P : World → Prop} {X : World} {lo hi : Nat} (h : On (inD D lo hi) P X) (hlh : lo ≤ hi) : On (fun q => D q ∨ lo ≤ q) P X := h.mono (fun q _ h2 => by
  rcases h2 with h2 | h2
  · exact .inl h2.1
  · exact .inr (by omega))
theorem On.setRow {D : Nat → Prop} {P : World → Prop} {X : World} {lo hi b : Nat} {A : Array Value} (h : On (inD D lo hi) P X) (h1 : lo ≤ b) (h2 : b < hi) : On (inD D lo hi) P (X.setRow b A) := h.keep (by rw [setRow_size]; exact Nat.le_refl _) (fun q _ hq => setRow_other _ _ _ _ (by
  rcases hq with hq | hq
  · have := hq.2; omega
  · omega))
theorem On.calls {D : Nat → Prop} {P : World → Prop} {W w' : World} {lo hi : Nat} (h : On (fun q => inD D lo hi q ∨ W.heap.size ≤ q) P w') (hW : hi ≤ W.heap.size) : On (inD D lo hi) P w' := h.mono (fun q _ h2 => by
  rcases h2 with h2 | h2
  · exact h2
  · exact .inr (by omega))
theorem FR.ofQ {D : Nat → Prop} {W w' : World} {lo hi : Nat} {l : List F} {v : Value} {E : List (List Value)} (h : OwnP (pOn (inD D lo hi) W) W.heap.size w' l v E) (hb : Below W.heap.size W w') (hW : hi ≤ W.heap.size) : FR (inD D lo hi) w' l v E := fun Z hZ => by
  have hA : All2 (fun f c => On (inD D lo hi) (fun Z => RepF Z f c) w') l E := h.rep.mono (fun _ _ k => On.below k hb)
  exact ⟨fresh_own h.own Z (fun q h1 h2 => hZ q h2 (.inr (by omega))), all_on hA Z hZ⟩
theorem FR.sl {D : Nat → Prop} {X : World} {l : List F} {v : Value} {E : List (List Value)} (h : FR D X l v E) : Sl X v l.length E.flatten := (On.now h).1
theorem FR.all {D : Nat → Prop} {X : World} {l : List F} {v : Value} {E : List (List Value)} (h : FR D X l v E) : All2 (pOn D X).P l E := on_all (On.map h (fun _ k => k.2))
theorem FR.below {D : Nat → Prop} {X Y : World} {l : List F} {v : Value} {E : List (List Value)} (h : FR D X l v E) (hb : Below X.heap.size X Y) : FR D Y l v E := On.below h hb
theorem FR.nil (D : Nat → Prop) (X : World) : FR D X [] (.slice none 0 0) [] := fun Z _ => ⟨Sl.nil Z, trivial⟩
theorem on_zero (D : Nat → Prop) (X : World) : On D (fun Z => RepV Z V0 [.int .i64 0, .int .i64 0, .string eB, .slice none 0 0, .slice none 0 0]) X := fun Z _ => rep_zero Z
theorem V5on {D : Nat → Prop} {w : World} {x : V} {c : List Value} (h : On D (fun Z => RepV Z x c) w) : ∃ (k n : Int) (s : ByteArray) (a : Option Addr) (m q : Nat) (a' : Option Addr) (m' q' : Nat), c = [.int .i64 k, .int .i64 n, .string s, .slice a m q, .slice a' m' q'] := V5 h.now
/-- an object of the call's own -/
theorem on_obj {D : Nat → Prop} {X : World} {l : List F} {ai : Option Addr} {ci : Nat} {v : Value} {E : List (List Value)} (hi : ∀ Z, Sl Z (.slice ai 0 ci) 0 []) (h : FR D X l v E) : On D (fun Z => RepV Z (obj l) [.int .i64 5, .int .i64 0, .string eB, .slice ai 0 ci, v]) X := fun Z hZ => by
  obtain ⟨a, c, e, _⟩ := (h Z hZ).1
  subst e
  exact rep_mk (k := 5) (n := 0) (s := ByteArray.empty) (is := []) (EI := []) ⟨by unfold i64ok; omega, by unfold i64ok; omega, by decide⟩ (hi Z) trivial (h Z hZ).1 (h Z hZ).2
theorem FR.shape {D : Nat → Prop} {X : World} {l : List F} {v : Value} {E : List (List Value)} (h : FR D X l v E) : ∃ a c, v = .slice a l.length c := by
  obtain ⟨a, c, e, _⟩ := h.sl
  exact ⟨a, c, e⟩
/-- the call's variable, its argument's box, the result's box -/
structure MdI (w X : World) (d : Nat) (vi v4 : Value) : Prop where
  rv : RH X d (vAr 5 0 eB vi v4) 25
  rr : ∃ A, RH X (w.heap.size + 2) A 25 ∧ A.size = 5
  bx : Below w.heap.size w X
section
variable {w X X' : World} {d : Nat} {vi v4 : Value}
theorem MdI.ext (h : MdI w X d vi v4) (hb : Below X.heap.size X X') : MdI w X' d vi v4 :=
  ⟨h.rv.ext hb, by obtain ⟨A, a, b⟩ := h.rr; exact ⟨A, a.ext hb, b⟩, ext_trans h.bx hb⟩
theorem MdI.row (h : MdI w X d vi v4) (hd : w.heap.size ≤ d) (hd2 : d ≠ w.heap.size + 2) (vi' v4' : Value) : MdI w (X.setRow d (vAr 5 0 eB vi' v4')) d vi' v4' :=
  ⟨h.rv.row _, by obtain ⟨A, a, b⟩ := h.rr; exact ⟨A, a.row_other (by omega) _, b⟩, below_setRow h.bx hd _⟩
theorem MdI.c (h : MdI w X d vi v4) : X.cell? ⟨d, 0, none⟩ = some (.int .i64 5) ∧ X.cell? ⟨d, 1, none⟩ = some (.int .i64 0) ∧ X.cell? ⟨d, 2, none⟩ = some (.string eB) ∧ X.cell? ⟨d, 3, none⟩ = some vi ∧ X.cell? ⟨d, 4, none⟩ = some v4 := va5 h.rv
end
/-- a value that a call in a region has made -/
def TPm (D : Nat → Prop) (m : V) : TP where
  p w v := ∃ c : List Value, v = .agg c.toArray ∧ On D (fun Z => RepV Z m c) w
  gr := by
    rintro w w' v hb ⟨c, h1, h2⟩
    exact ⟨c, h1, h2.below hb⟩
theorem sl_nil_any {w : World} {a : Option Addr} {c : Nat} {cs : List Value} (h : Sl w (.slice a 0 c) 0 cs) (Z : World) : Sl Z (.slice a 0 c) 0 [] := by
  obtain ⟨_, _, e, h1, h2, h3, _⟩ := h
  cases e
  exact ⟨a, c, rfl, h1, h2, h3, fun i x hx => by simp at hx⟩
theorem fop_on {D : Nat → Prop} {Y w2 : World} {nm : ByteArray} {out : List F} {co : List Value} (h : FopR (pOn D Y) nm (fofK 5 out nm) co) (hb : Below Y.heap.size Y w2) : On D (fun Z => RepV Z ((lk out nm).getD V0) co) w2 := by
  have e : fofK 5 out nm = lk out nm := if_pos rfl
  rw [e] at h
  rcases h with ⟨h1, rfl⟩ | ⟨y, h1, h2⟩
  · rw [h1]; exact on_zero _ _
  · rw [h1]; exact On.below (on_value h2) hb
end Fd
end Go.Proofs.Ytkjgifhklajifaa
