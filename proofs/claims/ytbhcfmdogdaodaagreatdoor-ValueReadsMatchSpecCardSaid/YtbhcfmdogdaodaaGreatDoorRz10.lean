/- Check, checkTwo and checked of package value. Printed by gen_vck.py. Plain: what Merge and Patch answer, with their errors; a value mended by its patch is the other one. No program stands in it. What Merge, Patch and their parts answer; a result in a cell beside one in a slot. Rows and slices of texts, as the walks carry them (VrH without versions). -/
import Derived.Test.YtbhcfmdogdaodaaGreatDoorRz09
import Derived.Test.YtbhcfmdogdaodaaGreatDoorRz04
import Derived.Test.YtbhcfmdogdaodaaGreatDoorRz01
import Derived.Test.YtbhcfmdogdaodaaGreatDoorRz08
import Derived.Test.YtbhcfmdogdaodaaGreatDoorRz02
import Derived.Test.YtbhcfmdogdaodaaGreatDoorRz06
namespace Go.Proofs.YtbhcfmdogdaodaaGreatDoor
open Go.RowKit
namespace Fd
open _root_.Go.Proofs.YtbhcfmdogdaodaaGreatDoor.Nt (RH RH.cell RH.box RH.lt RH.new RH.ext RH.fre RH.set RH.other)
open _root_.Go.Proofs.YtbhcfmdogdaodaaGreatDoor.Rw (wpList_load_agg)
set_option maxRecDepth 100000 in
set_option maxHeartbeats 8000000 in
theorem check_at (x : V) (cs : List Value) (w : World) (h : RepV w x cs) : Calls Tryz.prog 23 #[.agg cs.toArray] w fun e w' => e = .returned (.int .i64 (chkF x)) ∧ Below w.heap.size w w' := by
  obtain ⟨k0, n0, s0, ai, m, q, af, m', q', rfl⟩ := V5 h
  have HX := Lib.hid h
  have HCK : Hid (∀ p c : Int, IntKind.i64.wrap (pN x : Int) = p → cW x = c → chkF x = if 1000 < p ∨ 8 < c then 2 else chkV x) := Lib.hid (fun p c h1 h2 => by unfold chkF; rw [h1, h2])
  clear h
  go_enter Tryz.func23, Tryz.ntmps23
  go_upto_region 1 with (fail)
  refine wp_box1 fun W hszW hbW hA => ?_
  have a0 : W.cell? ⟨w.heap.size, 0, none⟩ = some (.int .i64 k0) := hA.2 0
  have a1 : W.cell? ⟨w.heap.size, 1, none⟩ = some (.int .i64 n0) := hA.2 1
  have a2 : W.cell? ⟨w.heap.size, 2, none⟩ = some (.string s0) := hA.2 2
  have a3 : W.cell? ⟨w.heap.size, 3, none⟩ = some (.slice ai m q) := hA.2 3
  have a4 : W.cell? ⟨w.heap.size, 4, none⟩ = some (.slice af m' q') := hA.2 4
  have HA0 := Lib.hid hA.1
  clear hszW hA
  go_wp2_with fail
  refine (countV x _ W (RepV.ext hbW HX.out)).mono ?_
  rintro e w1 ⟨rfl, hb1⟩
  obtain ⟨pn, hpn⟩ : ∃ z, IntKind.i64.wrap (pN x : Int) = z := ⟨_, rfl⟩
  obtain ⟨cw, hcw⟩ : ∃ z, cW x = z := ⟨_, rfl⟩
  have HC := Lib.hid (HCK.out pn cw hpn hcw)
  rw [hpn, hcw]
  have hw1 := ext_trans hbW hb1
  replace a0 := cell_later hb1 a0
  replace a1 := cell_later hb1 a1
  replace a2 := cell_later hb1 a2
  replace a3 := cell_later hb1 a3
  replace a4 := cell_later hb1 a4
  clear hpn hcw HCK hbW hb1
  by_cases h1 : 1000 < pn
  · have HN := Lib.hid (HC.out.trans (if_pos (.inl h1)))
    clear HC
    go_wp2_with fail
    go_ret
    exact ⟨ret_int HN.out.symm, hw1⟩
  · by_cases h2 : 8 < cw
    · have HN := Lib.hid (HC.out.trans (if_pos (.inr h2)))
      clear HC
      go_wp2_with fail
      go_ret
      exact ⟨ret_int HN.out.symm, hw1⟩
    · have HN := Lib.hid (HC.out.trans (if_neg (fun h => h.elim h1 h2)))
      clear HC
      go_wp2_with fail
      refine (partV x _ w1 (RepV.ext hw1 HX.out)).mono ?_
      rintro e w2 ⟨rfl, hb2⟩
      go_wp2_with fail
      go_ret
      exact ⟨ret_int HN.out.symm, ext_trans hw1 hb2⟩
end Fd
end Go.Proofs.YtbhcfmdogdaodaaGreatDoor
namespace Go.Proofs.YtbhcfmdogdaodaaGreatDoor
namespace Fd
/-- a result, checked -/
def chkdF (x : V) : V × Int := if chkF x ≠ 0 then (V0, chkF x) else (x, 0)
end Fd
end Go.Proofs.YtbhcfmdogdaodaaGreatDoor
namespace Go.Proofs.YtbhcfmdogdaodaaGreatDoor
open Go.RowKit
namespace Fd
open _root_.Go.Proofs.YtbhcfmdogdaodaaGreatDoor.Nt (RH RH.cell RH.box RH.lt RH.new RH.ext RH.fre RH.set RH.other)
open _root_.Go.Proofs.YtbhcfmdogdaodaaGreatDoor.Rw (wpList_load_agg wp_stored Kept Fresh)
theorem results_row_tmp {P : Program} {fn : Func} {p u : Tmp} {ty : TypeId} (h : fn.results = #[.cell p ty, .tmp u]) (tmps : Array Value) (w : World) (g : Nat) (t : TypeId) (cs : Array Value) (fr : Nat × Nat) (d : TypeDesc) (v : Value)
    (hp : tmps.getD p undef = .pointer (some ⟨g, 0, none⟩)) (hg : w.heap[g]? = some (.cells cs t fr))
    (hu : P.underlying ty = some d) (hd : (match d with | .struct _ | .array _ _ => true | _ => false) = true) (hi : (P.info? ty).map (·.size) = some cs.size) (hv : tmps.getD u undef = v) :
    (results fn tmps).run P w = .ok (.tuple #[.agg cs, v]) w := by
  rw [results_cell_tmp h, hp, hv]
  simp [asAddr, run_loadVar_row w g t ty cs fr d hg hu hd hi, Result.andThen]
/-- what checked answers: the value itself, or nothing -/
def CkPost (x : V) (cx : List Value) (w : World) (e : Ending) (w' : World) : Prop := ∃ c, e = .returned (.tuple #[.agg c.toArray, .int .i64 (chkdF x).2]) ∧ Below w.heap.size w w' ∧ ∀ W M, FreV M W x cx → FreV M W (chkdF x).1 c
theorem va5 {W : World} {b : Nat} {k n : Int} {s : ByteArray} {v1 v2 : Value} {t : TypeId} (h : RH W b (vAr k n s v1 v2) t) : W.cell? ⟨b, 0, none⟩ = some (.int .i64 k) ∧ W.cell? ⟨b, 1, none⟩ = some (.int .i64 n) ∧ W.cell? ⟨b, 2, none⟩ = some (.string s) ∧ W.cell? ⟨b, 3, none⟩ = some v1 ∧ W.cell? ⟨b, 4, none⟩ = some v2 :=
  ⟨h.cell 0, h.cell 1, h.cell 2, h.cell 3, h.cell 4⟩
end Fd
end Go.Proofs.YtbhcfmdogdaodaaGreatDoor
namespace Go.Proofs.YtbhcfmdogdaodaaGreatDoor
open Go.RowKit
namespace Tx
open _root_.Go.Proofs.YtbhcfmdogdaodaaGreatDoor.Nt (RH RH.cell RH.box RH.lt RH.new RH.ext RH.fre RH.set RH.other)
theorem wp_vr1 {P : Program} {c : Code} {Q : Exit → Act → World → Prop} {a : Act} {w : World} {A : Array Value} {t : TypeId}
    (h : ∀ W, Below w.heap.size w W → RH W w.heap.size A t → c.wp P Q a W) : c.wp P Q a (w.alloc (.cells A t)) := h _ (ext_alloc _ _) (RH.new _ _ _)
theorem wp_vr2 {P : Program} {c : Code} {Q : Exit → Act → World → Prop} {a : Act} {w : World} {A B : Array Value} {t u : TypeId}
    (h : ∀ W, Below w.heap.size w W → RH W w.heap.size A t → RH W (w.heap.size + 1) B u → c.wp P Q a W) : c.wp P Q a ((w.alloc (.cells A t)).alloc (.cells B u)) := by
  refine h _ (by go_grown) ((RH.new w A t).ext (ext_alloc _ _)) ?_
  have := RH.new (w.alloc (.cells A t)) B u
  simpa using this
def isS : Value → Bool
  | .string _ => true
  | _ => false
def NoS (A : Array Value) : Prop := ∀ (j : Nat) (u : Value), A[j]? = some u → isS u = false
/-- a slice that reads as the texts l -/
def SlS (w : World) (a : Option Addr) (l : List ByteArray) (c : Nat) : Prop := Sl w (.slice a l.length c) l.length (strs l)
theorem SlS.ext {w w' : World} {a : Option Addr} {l : List ByteArray} {c : Nat} (h : SlS w a l c) (hb : Below w.heap.size w w') : SlS w' a l c := Sl.ext h hb
theorem SlS.far {w w' : World} {b : Nat} {A : Array Value} {a : Option Addr} {l : List ByteArray} {c : Nat} (h : SlS w a l c) (hA : Box w b A) (hn : NoS A) (hk : ∀ p : Addr, p.block ≠ b → w'.cell? p = w.cell? p) : SlS w' a l c := by
  obtain ⟨a', cap, hv, h1, h2, h0, h3⟩ := h
  refine ⟨a', cap, hv, h1, h2, h0, fun i x hx => ?_⟩
  obtain ⟨b', o, ha, hc⟩ := h3 i x hx
  refine ⟨b', o, ha, ?_⟩
  rw [hk _ (fun e => ?_)]
  · exact hc
  · have e' : b' = b := e
    subst e'
    rw [hA.2] at hc
    have h4 := hn _ _ hc
    simp only [strs, List.getElem?_map] at hx
    cases hl : l[i]? with
    | none => rw [hl] at hx; cases hx
    | some s => rw [hl] at hx; injection hx with hx; subst hx; cases h4
theorem SlS.at {w : World} {a : Option Addr} {l : List ByteArray} {c k : Nat} (h : SlS w a l c) (hk : k < l.length) : ∃ b o, a = some ⟨b, o, none⟩ ∧ w.cell? ⟨b, o + k, none⟩ = some (.string l[k]) := Sl.addr h (strs_get hk)
end Tx
end Go.Proofs.YtbhcfmdogdaodaaGreatDoor
