/- A region that draws its order, whose operations but for a tail only make the memory grow: each operation is walked once, whatever the order. No program stands in it. comparePre and CompareVersions of the reference. Printed by gen_vread.py. compareCuts, isZero of the program and of the reference. Printed by gen_cuta.py. -/
import Derived.Test.YtiogfdkdhfmamaaDoorRa03
import Derived.StillTail
import Derived.Test.YtiogfdkdhfmamaaDoorRa04
import Derived.Test.YtiogfdkdhfmamaaDoorRa01
namespace Go.Proofs.YtiogfdkdhfmamaaDoor
open Go.RowKit
/-- what a temporary holds, in a world and in all that grow from it -/
structure TP where
  p : World → Value → Prop
  gr : ∀ w w' v, Below w.heap.size w w' → p w v → p w' v
def TP.any : TP := ⟨fun _ _ => True, fun _ _ _ _ h => h⟩
/-- a new block that reads as A and may be written -/
def TP.new (B : Nat) (A : Array Value) : TP := ⟨fun w v => ∃ g, v = .pointer (some ⟨g, 0, none⟩) ∧ B ≤ g ∧ Box w g A ∧ Fre w g, fun _ _ _ hb ⟨g, h1, h2, h3, h4⟩ => ⟨g, h1, h2, h3.ext hb, h4.ext h3 hb⟩⟩
namespace Grow
section
variable {P : Program}
def dstOf (ops : Array Oper) (j : Nat) : Option Tmp := (ops[j]?).bind (·.dst)
/-- what an operation waits for is there -/
def Need (ops : Array Oper) (Ts : List TP) (w : World) (K : Act → Prop) : List Nat → Act → Prop
  | [], a => K a
  | j :: js, a => ∀ v, (Ts.getD j TP.any).p w v → Need ops Ts w K js (a.put (dstOf ops j) v)
def putD (ops : Array Oper) (vs : Nat → Value) : List Nat → Act → Act
  | [], a => a
  | j :: js, a => putD ops vs js (a.put (dstOf ops j) (vs j))
theorem Need.at {ops : Array Oper} {Ts : List TP} {w : World} {K : Act → Prop} {vs : Nat → Value} : ∀ (D : List Nat) (a : Act), Need ops Ts w K D a → (∀ j ∈ D, (Ts.getD j TP.any).p w (vs j)) → K (putD ops vs D a)
  | [], a, h, _ => h
  | j :: js, a, h, hv => Need.at js _ (h (vs j) (hv j (by simp))) (fun i hi => hv i (by simp [hi]))
def TailOk (Ts : List TP) (K : Act → Prop) (w : World) : List Oper → Nat → Act → Prop
  | [], _, a => K a
  | o :: l, i, a => ∀ v, (Ts.getD i TP.any).p w v → TailOk Ts K w l (i + 1) (a.put o.dst v)
theorem TailOk.nil {Ts : List TP} {K : Act → Prop} {w : World} {i : Nat} {a : Act} (h : K a) : TailOk Ts K w [] i a := h
def foldPut (vs : Nat → Value) : List Oper → Nat → Act → Act
  | [], _, a => a
  | o :: l, i, a => foldPut vs l (i + 1) (a.put o.dst (vs i))
theorem TailOk.at {Ts : List TP} {K : Act → Prop} {w : World} {vs : Nat → Value} : ∀ (l : List Oper) (i : Nat) (a : Act), TailOk Ts K w l i a → (∀ j, j < l.length → (Ts.getD (i + j) TP.any).p w (vs (i + j))) → K (foldPut vs l i a)
  | [], _, _, h, _ => h
  | o :: l, i, a, h, hv => TailOk.at l (i + 1) _ (h (vs i) (by simpa using hv 0 (by simp))) (fun j hj => by have := hv (j + 1) (by simp; omega); rwa [show i + (j + 1) = i + 1 + j by omega] at this)
def looks (ops : Array Oper) (n : Nat) (D : List (List Nat)) : Bool := (List.range n).all fun i => match ops[i]? with
  | none => false
  | some o => (match o.guard with | none => true | some (g, _) => (D.getD i []).contains g) && o.dst.isSome && (o.after.all fun e => decide (e.on < i)) && ((D.getD i []).all fun j => decide (j < n) && Region.waitsFor .any ops i j) &&
      (o.op.operands.all fun x => match x with | .tmp t => (List.range n).all fun j => dstOf ops j != some t || (D.getD i []).contains j | _ => true)
end
end Grow
end Go.Proofs.YtiogfdkdhfmamaaDoor
namespace Go.Proofs.YtiogfdkdhfmamaaDoor
open Go.RowKit
namespace Tx
open _root_.Go.Proofs.YtiogfdkdhfmamaaDoor.Nm
open _root_.Go.Proofs.YtiogfdkdhfmamaaDoor.Nt (RH RH.cell RH.box RH.lt RH.new RH.ext RH.fre RH.set RH.other)
/-- a new slice of three numbers -/
def TP.n3 (a b c : Int) : TP := ⟨fun w v => ∃ g, v = .slice (some ⟨g, 0, none⟩) 3 3 ∧ w.cell? ⟨g, 0, none⟩ = some (.int .i64 a) ∧ w.cell? ⟨g, 1, none⟩ = some (.int .i64 b) ∧ w.cell? ⟨g, 2, none⟩ = some (.int .i64 c), fun w w' v hb h => by
  obtain ⟨g, h1, h2, h3, h4⟩ := h
  exact ⟨g, h1, (hb.cell (World.block_lt_of_cell? _ _ h2)).trans h2, (hb.cell (World.block_lt_of_cell? _ _ h3)).trans h3, (hb.cell (World.block_lt_of_cell? _ _ h4)).trans h4⟩⟩
end Tx
end Go.Proofs.YtiogfdkdhfmamaaDoor
namespace Go.Proofs.YtiogfdkdhfmamaaDoor
open Go.RowKit
namespace Rg
theorem box5 {w : World} {b : Nat} {a0 a1 a2 a3 a4 : Value} (h : Box w b #[a0, a1, a2, a3, a4]) : w.cell? ⟨b, 0, none⟩ = some a0 ∧ w.cell? ⟨b, 1, none⟩ = some a1 ∧ w.cell? ⟨b, 2, none⟩ = some a2 ∧ w.cell? ⟨b, 3, none⟩ = some a3 ∧ w.cell? ⟨b, 4, none⟩ = some a4 :=
  ⟨h.2 0, h.2 1, h.2 2, h.2 3, h.2 4⟩
theorem cmpC_is {a b : Ct} {z : Int} (h : cmpVer a.v b.v = z) : cmpC a b = if z ≠ 0 then z else if a.af = b.af then 0 else if b.af = true then -1 else 1 := by subst h; rfl

set_option maxRecDepth 100000 in
set_option maxHeartbeats 4000000 in
theorem compareCuts_g (x y : CA) (w : World) (h : x.ok w) (h' : y.ok w) : Calls Tryd.prog 25 #[.agg (caL x).toArray, .agg (caL y).toArray] w fun e w' => e = .returned (.int .i64 (cmpC x.c y.c)) ∧ Grew w w' := by
  obtain ⟨z, hz⟩ : ∃ z, cmpVer x.c.v y.c.v = z := ⟨_, rfl⟩
  have HV : Hid (cmpC x.c y.c = if z ≠ 0 then z else if x.c.af = y.c.af then 0 else if y.c.af = true then -1 else 1) := Lib.hid (cmpC_is hz)
  have HC : Hid (∀ W, Below w.heap.size w W → Calls Tryd.prog 27 #[.agg (vaL x).toArray, .agg (vaL y).toArray] W fun e w' => e = .returned (.int .i64 z) ∧ Grew W w') := Lib.hid (fun W hb => by
    subst hz
    exact compareVersions_g x.c.v y.c.v (vaL x) (vaL y) W (h.ext hb).rep (h'.ext hb).rep)
  clear hz h h'
  generalize cmpC x.c y.c = N at *
  obtain ⟨⟨⟨ma, mi, pa, pre⟩, af⟩, aa, n⟩ := x
  obtain ⟨⟨⟨ma', mi', pa', pre'⟩, af'⟩, aa', n'⟩ := y
  unfold vaL at HC
  unfold caL
  simp only at HV HC ⊢
  generalize pre.length = m at *
  generalize pre'.length = m' at *
  go_enter Tryd.func25, Tryd.ntmps25
  go_upto_region 1 with (fail)
  refine wp_box2d fun W hbW hA hB => ?_
  obtain ⟨a0, a1, a2, a3, a4⟩ := box5 hA
  obtain ⟨b0, b1, b2, b3, b4⟩ := box5 hB
  go_wp2_with fail
  refine (HC.out _ hbW.1).mono ?_
  rintro e w1 ⟨rfl, hb1⟩
  have hB1 : Below W.heap.size W w1 := hb1.1
  have hw1 := hbW.trans hb1
  replace hA := hA.ext hB1
  replace hB := hB.ext hB1
  clear a0 a1 a2 a3 a4 b0 b1 b2 b3 b4 HC hb1 hB1 hbW
  obtain ⟨a0, a1, a2, a3, a4⟩ := box5 hA
  obtain ⟨b0, b1, b2, b3, b4⟩ := box5 hB
  by_cases hz : z = 0
  · have HN := Lib.hid (HV.out.trans (if_neg (by rw [hz]; decide)))
    subst hz
    clear HV
    cases af <;> cases af'
    all_goals
      go_wp2
      go_ret
      exact ⟨ret_int (by rw [HN.out]; rfl), hw1⟩
  · have HN := Lib.hid (HV.out.trans (if_pos hz))
    have hne : (z != 0) = true := by simp [hz]
    have hne2 : (z == 0) = false := by simp [hz]
    clear HV hz
    go_wp2
    go_ret
    exact ⟨ret_int HN.out.symm, hw1⟩

set_option maxRecDepth 100000 in
set_option maxHeartbeats 4000000 in
theorem isZero_at (x : CA) (w : World) (hx : x.ok w) : Calls Tryd.prog 24 #[.agg (caL x).toArray] w fun e w' => e = .returned (.bool (isZ x.c)) ∧ Below w.heap.size w w' := by
  have hl := hx.sl.len63
  obtain ⟨r, hr⟩ : ∃ r, isZ x.c = r := ⟨_, rfl⟩
  have HR : Hid (r = (decide (x.c.v.ma = 0) && decide (x.c.v.mi = 0) && decide (x.c.v.pa = 0) && decide (x.c.v.pre.length = 0) && !x.c.af)) := Lib.hid (by
    rw [← hr]; unfold isZ
    congr 2
    exact decide_eq_decide.2 List.length_eq_zero_iff.symm)
  rw [hr]
  clear hr hx
  obtain ⟨⟨⟨ma, mi, pa, pre⟩, af⟩, aa, n⟩ := x
  unfold caL
  simp only at HR hl ⊢
  generalize pre.length = m at *
  go_enter Tryd.func24, Tryd.ntmps24
  go_upto_region 1 with (fail)
  refine wp_box1 fun W hsz hbW hA => ?_
  clear hsz
  have hlt := hA.1
  have hne : ¬ w.heap.size = W.heap.size := by omega
  have a4x : ∀ o, (W.alloc o).cell? ⟨w.heap.size, 4, none⟩ = some (.bool af) := fun o => ((ext_alloc W o).cell (p := ⟨w.heap.size, 4, none⟩) hlt).trans (box5 hA).2.2.2.2
  obtain ⟨a0, a1, a2, a3, a4⟩ := box5 hA
  by_cases h0 : ma = 0
  · by_cases h1 : mi = 0
    · by_cases h2 : pa = 0
      · by_cases h3 : m = 0
        · cases af
          all_goals
            subst h0 h1 h2 h3
            go_wp2
            go_ret
            exact ⟨congrArg (fun b => Ending.returned (.bool b)) (by rw [HR.out]; rfl), ext_trans hbW (by go_grown)⟩
        · have e3 : ((m : Int) == 0) = false := beq_eq_false_iff_ne.2 (by omega)
          have HN : Hid (r = false) := Lib.hid (by rw [HR.out, decide_eq_false h3]; simp)
          subst h0 h1 h2
          clear h3 HR
          go_wp2
          go_ret
          exact ⟨congrArg (fun b => Ending.returned (.bool b)) HN.out.symm, ext_trans hbW (by go_grown)⟩
      · have e2 : (pa == 0) = false := beq_eq_false_iff_ne.2 h2
        have HN : Hid (r = false) := Lib.hid (by rw [HR.out, decide_eq_false h2]; simp)
        subst h0 h1
        clear h2 HR
        go_wp2
        go_ret
        exact ⟨congrArg (fun b => Ending.returned (.bool b)) HN.out.symm, ext_trans hbW (by go_grown)⟩
    · have e1 : (mi == 0) = false := beq_eq_false_iff_ne.2 h1
      have HN : Hid (r = false) := Lib.hid (by rw [HR.out, decide_eq_false h1]; simp)
      subst h0
      clear h1 HR
      go_wp2
      go_ret
      exact ⟨congrArg (fun b => Ending.returned (.bool b)) HN.out.symm, ext_trans hbW (by go_grown)⟩
  · have e0 : (ma == 0) = false := beq_eq_false_iff_ne.2 h0
    have HN : Hid (r = false) := Lib.hid (by rw [HR.out, decide_eq_false h0]; simp)
    clear h0 HR
    go_wp2
    go_ret
    exact ⟨congrArg (fun b => Ending.returned (.bool b)) HN.out.symm, ext_trans hbW (by go_grown)⟩

end Rg
end Go.Proofs.YtiogfdkdhfmamaaDoor
