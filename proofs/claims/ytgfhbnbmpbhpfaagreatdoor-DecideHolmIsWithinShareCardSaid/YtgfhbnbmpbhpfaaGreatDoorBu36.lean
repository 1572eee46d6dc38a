/- Ranging over a map of a call's own that the round does not write: any keys, any values, in whatever order. No program stands in it. What keeps exact numbers: the words that are there stay. No program stands in it but for the words' type. The row of evidences, sorted: what stays where a block is written. Printed by gen_rank.py. ranked$1 of package decide. Printed by gen_rank.py. -/
import Derived.Test.YtgfhbnbmpbhpfaaGreatDoorBu35
import Derived.Test.YtgfhbnbmpbhpfaaGreatDoorBu00
import Derived.Maps.RangeRun
import Derived.Test.YtgfhbnbmpbhpfaaGreatDoorBu07
import Derived.Test.YtgfhbnbmpbhpfaaGreatDoorBu01
import Derived.Test.YtgfhbnbmpbhpfaaGreatDoorBu34
import Derived.Test.YtgfhbnbmpbhpfaaGreatDoorBu23
namespace Go.Proofs.YtgfhbnbmpbhpfaaGreatDoor
open Go.RowKit
variable {α β : Type}
/-- The map in block m is being ranged over by the iterator in block it: the pairs in done have come. -/
def RangeIs (kv : α → Value) (vv : β → Value) (w : World) (m it : Nat) (l done : List (α × β)) : Prop :=
  ∃ (es : Array MapEntry) (Z D R : List (MapEntry × (α × β))) (clock since c0 : Nat) (seen : Array Nat), w.heap[m]? = some (.map es clock) ∧ w.heap[it]? = some (.mapIter (some m) since seen c0) ∧ es.toList = Z.map (·.1) ∧ l = Z.map (·.2) ∧ (∀ z ∈ Z, z.1.key = kv z.2.1 ∧ z.1.val = vv z.2.2) ∧
    Z.Pairwise (fun a b => a.1.born ≠ b.1.born) ∧ since ≤ c0 ∧ since ≤ clock ∧ (∀ z ∈ Z, z.1.born < since) ∧ (D ++ R).Perm Z ∧ seen.toList = D.map (·.1.born) ∧ done = D.map (·.2)
theorem RangeIs.keep {kv : α → Value} {vv : β → Value} {w w' : World} {m it : Nat} {l done : List (α × β)} (h : RangeIs kv vv w m it l done) (h1 : w'.heap[m]? = w.heap[m]?) (h2 : w'.heap[it]? = w.heap[it]?) : RangeIs kv vv w' m it l done := by
  obtain ⟨es, Z, D, R, clock, since, c0, seen, k1, k2, k3⟩ := h
  exact ⟨es, Z, D, R, clock, since, c0, seen, h1.trans k1, h2.trans k2, k3⟩
theorem RangeIs.lt {kv : α → Value} {vv : β → Value} {w : World} {m it : Nat} {l done : List (α × β)} (h : RangeIs kv vv w m it l done) : m < w.heap.size ∧ it < w.heap.size := by
  obtain ⟨es, Z, D, R, clock, since, c0, seen, k1, k2, _⟩ := h
  exact ⟨(Array.getElem?_eq_some_iff.1 k1).1, (Array.getElem?_eq_some_iff.1 k2).1⟩
theorem RangeIs.ext {kv : α → Value} {vv : β → Value} {w w' : World} {m it : Nat} {l done : List (α × β)} (h : RangeIs kv vv w m it l done) (hb : Below w.heap.size w w') : RangeIs kv vv w' m it l done :=
  h.keep (hb.block _ h.lt.1) (hb.block _ h.lt.2)
theorem RangeIs.len {kv : α → Value} {vv : β → Value} {w : World} {m it : Nat} {l done : List (α × β)} (h : RangeIs kv vv w m it l done) : done.length ≤ l.length ∧ ∃ rest, (done ++ rest).Perm l := by
  obtain ⟨es, Z, D, R, clock, since, c0, seen, _, _, _, rfl, _, _, _, _, _, hp, _, rfl⟩ := h
  refine ⟨?_, R.map (·.2), ?_⟩
  · have := hp.length_eq; simp at this ⊢; omega
  · have := hp.map (·.2); rwa [List.map_append] at this
theorem zip_of (kv : α → Value) (vv : β → Value) : ∀ (es : List MapEntry) (l : List (α × β)), es.map (·.key) = l.map (fun p => kv p.1) → es.map (·.val) = l.map (fun p => vv p.2) → ∃ Z : List (MapEntry × (α × β)), es = Z.map (·.1) ∧ l = Z.map (·.2) ∧ ∀ z ∈ Z, z.1.key = kv z.2.1 ∧ z.1.val = vv z.2.2
  | [], [], _, _ => ⟨[], rfl, rfl, fun z h => by cases h⟩
  | [], _ :: _, h, _ => by simp at h
  | _ :: _, [], h, _ => by simp at h
  | e :: es, p :: l, h1, h2 => by
    simp only [List.map_cons, List.cons.injEq] at h1 h2
    obtain ⟨Z, z1, z2, z3⟩ := zip_of kv vv es l h1.2 h2.2
    refine ⟨(e, p) :: Z, by rw [List.map_cons, ← z1], by rw [List.map_cons, ← z2], fun z hz => ?_⟩
    rcases List.mem_cons.1 hz with rfl | hz
    · exact ⟨h1.1, h2.1⟩
    · exact z3 z hz
/-- range m -/
theorem MapIs.range {P : Program} {K E t : TypeId} {kv : α → Value} {vv : β → Value} {w : World} {m : Nat} {l : List (α × β)} (h : MapIs kv vv w m l) (ht : P.underlying t = some (.map K E)) :
    ∃ o : Obj, (Instr.range t (.map (some m))).run P w = .ok (.pointer (some ⟨w.heap.size, 0, none⟩)) (w.alloc o) ∧ RangeIs kv vv (w.alloc o) m w.heap.size l [] := by
  obtain ⟨es, clock, h1, h2, h3, h4, h5⟩ := id h
  obtain ⟨Z, z1, z2, z3⟩ := zip_of kv vv es.toList l h2 h3
  refine ⟨.mapIter (some m) clock #[] clock, ?_, es, Z, [], Z, clock, clock, clock, #[], ?_, ?_, z1, z2, z3, ?_, Nat.le_refl _, Nat.le_refl _, ?_, by simp, rfl, rfl⟩
  · have hgo : (getObj m).run P w = .ok (.map es clock) w := by simp [getObj, Sem.run, h1]
    unfold Instr.range
    simp [Sem.run_bind, run_underlying ht, hgo]
  · rw [(ext_alloc w _).block m h.lt]; exact h1
  · show (w.heap.push _)[w.heap.size]? = _; simp
  · rw [z1] at h5; exact (List.pairwise_map (R := fun a b : MapEntry => a.born ≠ b.born)).1 h5
  · intro z hz; exact h4 _ (by rw [z1]; exact List.mem_map_of_mem hz)
/-- next: nothing is left, or a pair comes. -/
theorem RangeIs.next {P : Program} {kv : α → Value} {vv : β → Value} {w : World} {m it : Nat} {l done : List (α × β)} (h : RangeIs kv vv w m it l done) (ty : TypeId) :
    ((Instr.next (.pointer (some ⟨it, 0, none⟩)) false ty).run P w = .ok (.tuple #[.bool false]) w ∧ done.Perm l) ∨
    ∃ (p : α × β) (w' : World), (Instr.next (.pointer (some ⟨it, 0, none⟩)) false ty).run P w = .ok (.tuple #[.bool true, kv p.1, vv p.2]) w' ∧ RangeIs kv vv w' m it l (done ++ [p]) ∧
      (Instr.entry (.pointer (some ⟨it, 0, none⟩))).run P w' = .ok (.tuple #[kv p.1, vv p.2]) w' ∧ (∀ a : Addr, w'.cell? a = w.cell? a) ∧ (∀ a : Addr, w'.frozen? a = w.frozen? a) ∧ w'.heap.size = w.heap.size ∧ (∀ b, b ≠ it → w'.heap[b]? = w.heap[b]?) ∧ Below it w w' := by
  obtain ⟨es, Z, D, R, clock, since, c0, seen, k1, k2, k3, k4, k5, k6, k7, k7', k8, k9, k10, k11⟩ := h
  have hmi : m ≠ it := fun e => by subst e; rw [k1] at k2; cases k2
  have hlt := (Array.getElem?_eq_some_iff.1 k2).1
  have hold : ∀ x ∈ es.toList, x.born < since := fun x hx => by
    rw [k3] at hx; obtain ⟨z, hz, rfl⟩ := List.mem_map.1 hx; exact k8 z hz
  have hpw : (D ++ R).Pairwise (fun a b => a.1.born ≠ b.1.born) := k9.symm.pairwise k6 (fun h => h.symm)
  rcases run_next_at (P := P) w ty it m since c0 seen es clock k2 k1 hold k7 with ⟨h0, hrun⟩ | ⟨e, he, w1, hw1, hrun⟩
  · left
    refine ⟨hrun, ?_⟩
    have hR : R = [] := by
      cases R with
      | nil => rfl
      | cons z R =>
        exfalso
        have hz : z ∈ Z := k9.mem_iff.1 (by simp)
        have hin : z.1 ∈ (leftOf es seen).toList := by
          unfold leftOf
          simp only [Array.toList_filter, List.mem_filter]
          refine ⟨by rw [k3]; exact List.mem_map_of_mem hz, ?_⟩
          rw [Bool.not_eq_true', Bool.eq_false_iff]
          intro hc
          have : z.1.born ∈ seen.toList := by simpa using hc
          rw [k10] at this
          obtain ⟨d, hd, hb⟩ := List.mem_map.1 this
          exact (List.pairwise_append.1 hpw).2.2 d hd z (by simp) hb
        have := Array.eq_empty_of_size_eq_zero h0
        rw [this] at hin; cases hin
    subst hR
    rw [k4, k11]
    rw [List.append_nil] at k9
    exact k9.map _
  · right
    unfold leftOf at he
    simp only [Array.toList_filter, List.mem_filter, Bool.not_eq_true'] at he
    obtain ⟨he1, he2⟩ := he
    rw [k3] at he1
    obtain ⟨z, hz, rfl⟩ := List.mem_map.1 he1
    have hzR : z ∈ R := by
      rcases List.mem_append.1 (k9.mem_iff.2 hz) with hd | hr
      · exfalso
        have h1 : z.1.born ∈ seen.toList := by rw [k10]; exact List.mem_map.2 ⟨z, hd, rfl⟩
        have h2 : seen.contains z.1.born = true := by simpa using h1
        rw [he2] at h2; cases h2
      · exact hr
    obtain ⟨R1, R2, rfl⟩ := List.append_of_mem hzR
    have hw1h : w1.heap = w.heap := by rcases hw1 with rfl | rfl <;> rfl
    have hsame : ∀ b, b ≠ it → (ChangeMaps.setBlock w1 it (.mapIter (some m) since (seen.push z.1.born) clock)).heap[b]? = w.heap[b]? := fun b hb => by
      simp only [ChangeMaps.setBlock, Array.getElem?_setIfInBounds, hw1h]; rw [if_neg (fun e => hb e.symm)]
    have hit : (ChangeMaps.setBlock w1 it (.mapIter (some m) since (seen.push z.1.born) clock)).heap[it]? = some (.mapIter (some m) since (seen.push z.1.born) clock) := by
      simp [ChangeMaps.setBlock, hw1h, hlt]
    have hk5 := k5 z hz
    refine ⟨z.2, ChangeMaps.setBlock w1 it (.mapIter (some m) since (seen.push z.1.born) clock), by rw [hrun, hk5.1, hk5.2], ?_, ?_, ?_, ?_, ?_, hsame, ?_⟩
    · refine ⟨es, Z, D ++ [z], R1 ++ R2, clock, since, clock, seen.push z.1.born, (hsame m hmi).trans k1, hit, k3, k4, k5, k6, k7', k7', k8, ?_, ?_, ?_⟩
      · refine List.Perm.trans ?_ k9
        rw [List.append_assoc]
        have hm : (z :: (R1 ++ R2)).Perm (R1 ++ z :: R2) := List.perm_middle.symm
        exact List.Perm.append_left D hm
      · rw [Array.toList_push, k10, List.map_append]; rfl
      · rw [k11, List.map_append]; rfl
    · rw [← hk5.1, ← hk5.2]
      refine run_entry_at _ it m since seen es clock z.1 hit ((hsame m hmi).trans k1) (by rw [k3]; exact List.mem_map_of_mem hz) ?_
      rw [k3, List.map_map]
      exact List.pairwise_map.2 k6
    · intro a
      simp only [World.cell?]
      by_cases ha : a.block = it
      · rw [ha, hit, k2]
      · rw [hsame _ ha]
    · intro a
      simp only [World.frozen?]
      by_cases ha : a.block = it
      · rw [ha, hit, k2]
      · rw [hsame _ ha]
    · simp [ChangeMaps.setBlock, hw1h]
    · refine ⟨?_, ?_, ?_, ?_, fun k hk => hsame k (by omega)⟩
      · rcases hw1 with rfl | rfl <;> rfl
      · rcases hw1 with rfl | rfl <;> rfl
      · rcases hw1 with rfl | rfl <;> rfl
      · simp [ChangeMaps.setBlock, hw1h]
section
variable {P : Program} {w : World} {ops : Array Oper} {rest : List Oper} {o : Oper} {a : Act} {Q : Exit → Act → World → Prop} {kv : α → Value} {vv : β → Value} {m it : Nat} {l done : List (α × β)}
end
end Go.Proofs.YtgfhbnbmpbhpfaaGreatDoor
namespace Go.Proofs.YtgfhbnbmpbhpfaaGreatDoor
open Go.RowKit
namespace Nm
/-- Every word of w is there in w'. -/
def Kp (w w' : World) : Prop := w.heap.size ≤ w'.heap.size ∧ ∀ (a : Addr) (z : Int), w.cell? a = some (.int .u32 z) → w'.cell? a = some (.int .u32 z)
theorem Kp.refl (w : World) : Kp w w := ⟨Nat.le_refl _, fun _ _ h => h⟩
theorem Kp.trans {a b c : World} (h : Kp a b) (k : Kp b c) : Kp a c := ⟨Nat.le_trans h.1 k.1, fun p z hp => k.2 p z (h.2 p z hp)⟩
theorem Kp.ext {w w' : World} (h : Below w.heap.size w w') : Kp w w' := ⟨h.size, fun _a _z ha => (h.cell (World.block_lt_of_cell? w _ ha)).trans ha⟩
theorem Kp.turned {w w' : World} {b : Nat} (h : w.mapTurned w' b) : Kp w w' := ⟨by rw [turned_size h]; exact Nat.le_refl _, fun a z ha => (turned_cell h a).trans ha⟩
theorem Kp.setCell {w : World} {p : Addr} {u : Value} (hu : w.cell? p = some u) (hn : isWord u = false) (v : Value) : Kp w (w.setCell p v) := by
  refine ⟨by simp, fun a z ha => ?_⟩
  have hne : p ≠ a := fun e => by subst e; rw [hu] at ha; cases ha; cases hn
  rw [World.cell?_setCell_other _ _ _ _ hne]; exact ha
theorem N.kp {w w' : World} {v : Value} {n : Nat} (h : N w v n) (hk : Kp w w') : N w' v n := by
  obtain ⟨a, cap, hv, h1, h2, h0, h3⟩ := h
  refine ⟨a, cap, hv, h1, h2, h0, fun i x hx => ?_⟩
  obtain ⟨b, o, ha, hc⟩ := h3 i x hx
  refine ⟨b, o, ha, ?_⟩
  have hi : i < (digs n).length := by have := (List.getElem?_eq_some_iff.1 hx).1; rwa [wcs_length] at this
  rw [wcs_get hi] at hx
  cases hx
  exact hk.2 _ _ hc
theorem XR.kp {w w' : World} {v : Value} {q : Rat} (h : XR w v q) (hk : Kp w w') : XR w' v q := by
  obtain ⟨v1, v2, h0, h1, h2⟩ := h; exact ⟨v1, v2, h0, h1.kp hk, h2.kp hk⟩
/-- a row of the call's own without words has grown -/
theorem Kp.grown {w w' : World} {v : Value} (hg : w.grownBy w' v.ownBlock) (hq : RowQ (fun u => isWord u = false) w v) : Kp w w' := by
  refine ⟨hg.size, fun a z ha => ?_⟩
  have hlt := World.block_lt_of_cell? w _ ha
  by_cases he : v.ownBlock = some a.block
  · exfalso
    obtain ⟨b, o, s⟩ := a
    cases s with
    | none => have := hq b he o _ ha; cases this
    | some s => simp only [World.cell?] at ha; split at ha <;> simp at ha
  · rw [World.cell?_of_block (w := w) (hg.block a.block hlt (fun e => he e.symm))]; exact ha
/-- three cells of a block without words, written -/
theorem Kp.set3 {w : World} {b : Nat} {A : Array Value} (hA : Box w b A) (hn : ∀ (j : Nat) (u : Value), A[j]? = some u → isWord u = false) (v0 v1 v2 : Value) : Kp w (((w.setCell ⟨b, 0, none⟩ v0).setCell ⟨b, 1, none⟩ v1).setCell ⟨b, 2, none⟩ v2) := by
  refine ⟨by simp, fun a z ha => ?_⟩
  have hne : a.block ≠ b := fun e => by
    obtain ⟨b', o, s⟩ := a
    subst e
    cases s with
    | none => rw [hA.2 o] at ha; have := hn _ _ ha; cases this
    | some s => simp only [World.cell?] at ha; split at ha <;> simp at ha
  rw [set3_other _ _ _ a hne]; exact ha
end Nm
end Go.Proofs.YtgfhbnbmpbhpfaaGreatDoor
namespace Go.Proofs.YtgfhbnbmpbhpfaaGreatDoor
open Go.RowKit
namespace Nm
def SameAt (g : Nat) (w w' : World) : Prop := ∀ o, w'.cell? ⟨g, o, none⟩ = w.cell? ⟨g, o, none⟩
theorem SameAt.trans {g : Nat} {a b c : World} (h : SameAt g a b) (k : SameAt g b c) : SameAt g a c := fun o => (k o).trans (h o)
theorem SameAt.setCell {g : Nat} {w : World} {p : Addr} (hne : p.block ≠ g) (v : Value) : SameAt g w (w.setCell p v) := fun o => World.cell?_setCell_other _ _ _ _ (fun e => hne (by rw [e]))
theorem SameAt.set3 {g : Nat} {w : World} {b : Nat} (hne : b ≠ g) (v0 v1 v2 : Value) : SameAt g w (((w.setCell ⟨b, 0, none⟩ v0).setCell ⟨b, 1, none⟩ v1).setCell ⟨b, 2, none⟩ v2) :=
  ((SameAt.setCell (p := ⟨b, 0, none⟩) hne _).trans (SameAt.setCell (p := ⟨b, 1, none⟩) hne _)).trans (SameAt.setCell (p := ⟨b, 2, none⟩) hne _)
theorem sl_far {w w' : World} {g n c : Nat} {cs : List Value} (h : Sl w (.slice (some ⟨g, 0, none⟩) n c) n cs) (hs : SameAt g w w') : Sl w' (.slice (some ⟨g, 0, none⟩) n c) n cs := by
  obtain ⟨a, cap, hv, h1, h2, h0, h3⟩ := h
  refine ⟨a, cap, hv, h1, h2, h0, fun i x hx => ?_⟩
  obtain ⟨b, o, ha, hc⟩ := h3 i x hx
  cases hv; cases ha
  exact ⟨g, 0, rfl, (hs _).trans hc⟩
theorem XsOf.far {w w' : World} {l : List RT} {xs : List Y3} {g c : Nat} (h : XsOf w l xs (some ⟨g, 0, none⟩) c) (hk : Kp w w') (hs : SameAt g w w') : XsOf w' l xs (some ⟨g, 0, none⟩) c :=
  ⟨h.len, sl_far h.sl hs, fun i x r h1 h2 => (h.ok i x r h1 h2).kp hk⟩
theorem kp_box1 {w : World} {b : Nat} {u : Value} (hB : Box w b #[u]) (hn : isWord u = false) (v : Value) : Kp w (w.setCell ⟨b, 0, none⟩ v) := Kp.setCell (u := u) (hB.2 0) hn v
def vL (l : List RT) (i : Nat) : Rat := match l[i]? with | some r => rQ r.n r.d | none => 0
theorem vL_at {l : List RT} {i : Nat} {r : RT} (h : l[i]? = some r) : vL l i = rQ r.n r.d := by unfold vL; rw [h]
def rkF (l : List RT) (n d : ByteArray) : Int := if allF l ≠ 0 then allF l else missF n d
structure RkOk (w : World) (l : List RT) (n d : ByteArray) (xs : List Y3) (a3 : Option Addr) (c3 : Nat) (a4 : Option Addr) (c4 : Nat) (t : Y3) : Prop where
  xs : XsOf w l xs a3 c3
  sl : Sl w (.slice a4 l.length c4) l.length (Nt.wcs (rankP (vL l) l.length))
  nd : XR w (y3V t) (rQ n d)⁻¹
theorem RkOk.ext {w w' : World} {l : List RT} {n d : ByteArray} {xs : List Y3} {a3 : Option Addr} {c3 : Nat} {a4 : Option Addr} {c4 : Nat} {t : Y3} (h : RkOk w l n d xs a3 c3 a4 c4 t) (hb : Below w.heap.size w w') : RkOk w' l n d xs a3 c3 a4 c4 t :=
  ⟨h.xs.ext hb, h.sl.ext hb, h.nd.ext hb⟩
def RkIf (w : World) (f : Int) (l : List RT) (n d : ByteArray) (xs : List Y3) (a3 : Option Addr) (c3 : Nat) (a4 : Option Addr) (n4 c4 : Nat) (t : Y3) : Prop := f = 0 → n4 = l.length ∧ RkOk w l n d xs a3 c3 a4 c4 t
theorem RkIf.ext {w w' : World} {f : Int} {l : List RT} {n d : ByteArray} {xs : List Y3} {a3 : Option Addr} {c3 : Nat} {a4 : Option Addr} {n4 c4 : Nat} {t : Y3} (h : RkIf w f l n d xs a3 c3 a4 n4 c4 t) (hb : Below w.heap.size w w') : RkIf w' f l n d xs a3 c3 a4 n4 c4 t :=
  fun h0 => ⟨(h h0).1, (h h0).2.ext hb⟩
def RankPost (w : World) (l : List RT) (n d : ByteArray) (e : Ending) (w' : World) : Prop :=
  ∃ a3 c3 xs a4 n4 c4 t, e = .returned (.tuple #[.slice a3 xs.length c3, .slice a4 n4 c4, y3V t, .int .i64 (rkF l n d)]) ∧ RkIf w' (rkF l n d) l n d xs a3 c3 a4 n4 c4 t ∧ Below w.heap.size w w'
end Nm
namespace Nt
theorem wpList_append_wi {w : World} {ops : Array Oper} {rest : List Oper} {o : Oper} {a : Act} {Q : Exit → Act → World → Prop} (hgd : o.guard = none) (s x : Operand)
    (ho : o.op = .call { callee := .builtin .append, args := #[s, x], argTypes := #[35, 35] })
    (base : Nat) {v : Value} {l : List Nat} (hs : a.eval s = v) (hown : Row w base v l) {z : Int} (y : Nat) (hx : a.eval x = .slice (some ⟨w.heap.size, 0, none⟩) 1 1) (hz : z = (y : Int))
    (hn : l.length ≤ 10000000000) (hbase : base ≤ w.heap.size)
    (h : ∀ v' w', Row w' base v' (l ++ [y]) → Below base w w' → wpList Tryz.prog ops Q rest (a.put o.dst v') w') : wpList Tryz.prog ops Q (o :: rest) a (w.alloc (.cells #[.int .i64 z] 3)) := by
  subst hz
  refine wpList_append_sl hgd s x _ ho base 3 Tryz.underlying35 i64_info rfl (by decide) hs (ownsRow_ext hown (ext_alloc _ _)) hx (Sl.new w #[.int .i64 (y : Int)] _ 1 1 (by omega) (by decide)) rfl (by intro u hu; simp at hu; subst hu; rfl) (by unfold maxLen; omega) (by omega) (by simp; omega) (fun v' w' h1 h2 _ => ?_)
  refine h v' w' ?_ ?_
  · unfold Row
    rw [List.length_append, List.length_singleton]
    have e : wcs (l ++ [y]) = wcs l ++ [.int .i64 (y : Int)] := by simp [wcs, wc]
    rw [e]; exact h1
  · exact ((ext_alloc w _).mono hbase).trans (Below.grown (Below.refl base _) h2 (by simp; omega) (fun k hk => (World.ownsRow.lt hown k hk).1))
open _root_.Go.Proofs.YtgfhbnbmpbhpfaaGreatDoor.Nm (cmpV rankP)
theorem sortRange_at (v : Nat → Rat) (pv : Value) (base blk cap n : Nat) (wB w : World) (hC : CmpB pv (cmpV v) base n wB) (hl : Below base wB w) (hO : Own w blk (List.range n)) (hbase : base ≤ blk) (hw : base ≤ w.heap.size) (hn : n < 20) :
    Calls Tryz.prog 154 #[.slice (some ⟨blk, 0, none⟩) n cap, .func (.func 155) #[] #[pv]] w fun e w' => e = .returned (.tuple #[]) ∧ Own w' blk (rankP v n) ∧ Below base wB w' := by
  have hz : (Array.range n).size = n := by simp
  have h := sortInts_at (cmpV v) pv base blk cap n wB (Array.range n) w hC ⟨hl, by simpa using hO, fun i hi => by rw [getElem!_pos _ i hi]; simpa using hi⟩ hbase hw (by omega)
  rw [hz] at h
  refine h.mono ?_
  rintro e w' ⟨he, hs, _⟩
  rw [hz] at hs
  exact ⟨he, hs.own, hs.low⟩
end Nt
end Go.Proofs.YtgfhbnbmpbhpfaaGreatDoor
namespace Go.Proofs.YtgfhbnbmpbhpfaaGreatDoor
open Go.RowKit
namespace Nm
open _root_.Go.Proofs.YtgfhbnbmpbhpfaaGreatDoor.Nt (boxn_other boxn_cell)
set_option maxRecDepth 100000 in
set_option maxHeartbeats 4000000 in
theorem rcmp_at (l : List RT) (xs : List Y3) (a3 : Option Addr) (c3 ba x y : Nat) (hx : x < l.length) (hy : y < l.length) (W : World) (hB : Box W ba #[.slice a3 xs.length c3]) (hX : XsOf W l xs a3 c3) (hln : ∀ r ∈ l, Ln 100 100 (rQ r.n r.d)) :
    Calls Tryz.prog 155 #[.int .i64 (x : Int), .int .i64 (y : Int), .pointer (some ⟨ba, 0, none⟩)] W fun e w' => e = .returned (.int .i64 (cmpV (vL l) x y)) ∧ Below W.heap.size W w' := by
  obtain ⟨rx, hrx⟩ : ∃ r, l[x]? = some r := ⟨_, List.getElem?_eq_getElem hx⟩
  obtain ⟨ry, hry⟩ : ∃ r, l[y]? = some r := ⟨_, List.getElem?_eq_getElem hy⟩
  have hlx : x < xs.length := by rw [hX.len]; exact hx
  have hly : y < xs.length := by rw [hX.len]; exact hy
  obtain ⟨tx, htx⟩ : ∃ t, xs[x]? = some t := ⟨_, List.getElem?_eq_getElem hlx⟩
  obtain ⟨ty, hty⟩ : ∃ t, xs[y]? = some t := ⟨_, List.getElem?_eq_getElem hly⟩
  have HXX := Lib.hid (hX.ok x tx rx htx hrx)
  have HXY := Lib.hid (hX.ok y ty ry hty hry)
  have HEX := Lib.hid (vL_at hrx)
  have HEY := Lib.hid (vL_at hry)
  have HLX := Lib.hid (hln _ (List.mem_of_getElem? hrx))
  have HLY := Lib.hid (hln _ (List.mem_of_getElem? hry))
  obtain ⟨pb, po, hp9, hcx⟩ := hX.sl.elem (f := y3L) (fun _ => rfl) (by omega : 0 < 3) htx
  obtain ⟨pb2, po2, hp8, hcy⟩ := hX.sl.elem (f := y3L) (fun _ => rfl) (by omega : 0 < 3) hty
  subst hp9
  cases hp8
  have HS := Lib.hid (show wlen (rQ rx.n rx.d).num.natAbs ≤ 6000 ∧ wlen (rQ rx.n rx.d).den ≤ 6000 from HLX.out.small (by omega) (by omega))
  have HT := Lib.hid (show wlen (rQ ry.n ry.d).num.natAbs ≤ 6000 ∧ wlen (rQ ry.n ry.d).den ≤ 6000 from HLY.out.small (by omega) (by omega))
  obtain ⟨xb, xa1, xn1, xc1, xa2, xn2, xc2⟩ := tx
  obtain ⟨yb, ya1, yn1, yc1, ya2, yn2, yc2⟩ := ty
  have hA : ∀ p : Nt.GrownOf W, p.v.cell? ⟨ba, 0, none⟩ = some (.slice (some ⟨pb, po, none⟩) xs.length c3) := fun p => (hB.ext p.b).2 0
  have hx0 : ∀ p : Nt.GrownOf W, p.v.cell? ⟨pb, po + x * 3, none⟩ = some (.bool xb) := fun p => by have h := hcx 0 _ rfl; exact (p.b.cell (World.block_lt_of_cell? _ _ h)).trans h
  have hx1 : ∀ p : Nt.GrownOf W, p.v.cell? ⟨pb, po + x * 3 + 1, none⟩ = some (.slice xa1 xn1 xc1) := fun p => by have h := hcx 1 _ rfl; exact (p.b.cell (World.block_lt_of_cell? _ _ h)).trans h
  have hx2 : ∀ p : Nt.GrownOf W, p.v.cell? ⟨pb, po + x * 3 + 2, none⟩ = some (.slice xa2 xn2 xc2) := fun p => by have h := hcx 2 _ rfl; exact (p.b.cell (World.block_lt_of_cell? _ _ h)).trans h
  have hy0 : ∀ p : Nt.GrownOf W, p.v.cell? ⟨pb, po + y * 3, none⟩ = some (.bool yb) := fun p => by have h := hcy 0 _ rfl; exact (p.b.cell (World.block_lt_of_cell? _ _ h)).trans h
  have hy1 : ∀ p : Nt.GrownOf W, p.v.cell? ⟨pb, po + y * 3 + 1, none⟩ = some (.slice ya1 yn1 yc1) := fun p => by have h := hcy 1 _ rfl; exact (p.b.cell (World.block_lt_of_cell? _ _ h)).trans h
  have hy2 : ∀ p : Nt.GrownOf W, p.v.cell? ⟨pb, po + y * 3 + 2, none⟩ = some (.slice ya2 yn2 yc2) := fun p => by have h := hcy 2 _ rfl; exact (p.b.cell (World.block_lt_of_cell? _ _ h)).trans h
  obtain ⟨z, hz⟩ : ∃ z, cmpV (vL l) x y = z := ⟨_, rfl⟩
  have HZ : Hid (cmpQ (rQ ry.n ry.d) (rQ rx.n rx.d) = z) := Lib.hid (by rw [← hz, ← HEX.out, ← HEY.out]; rfl)
  rw [hz]
  have hc : ∀ p : Nt.GrownOf W, Calls Tryz.prog 84 #[.agg #[.bool yb, .slice ya1 yn1 yc1, .slice ya2 yn2 yc2], .agg #[.bool xb, .slice xa1 xn1 xc1, .slice xa2 xn2 xc2]] p.v fun e w' => e = .returned (.int .i64 z) ∧ Below p.v.heap.size p.v w' := fun p => xcmp_is (rQ ry.n ry.d) (rQ rx.n rx.d) z HZ.out _ _ _ (HXY.out.ext p.b) (HXX.out.ext p.b) (by have := HT.out.1; omega) (by have := HT.out.2; omega) (by have := HS.out.1; omega) (by have := HS.out.2; omega)
  have px : (0 : Int) ≤ (x : Int) := Int.natCast_nonneg _
  have py : (0 : Int) ≤ (y : Int) := Int.natCast_nonneg _
  have qx : (x : Int) < (xs.length : Int) := by omega
  have qy : (y : Int) < (xs.length : Int) := by omega
  have ex : (x : Int).toNat = x := by omega
  have ey : (y : Int).toNat = y := by omega
  clear hrx hry htx hty hX hB hcx hcy hln hz hx hy hlx hly
  go_enter Tryz.func155, Tryz.ntmps155
  go_wp2_with fail
  go_quiet_below (first | (go_at_call 84; refine Nt.Calls.grows (hc _)))
  clear hA hc hx0 hy0 hx1 hy1 hx2 hy2
  go_wp2
  go_ret
  exact ⟨rfl, hbq⟩
end Nm
end Go.Proofs.YtgfhbnbmpbhpfaaGreatDoor
